/- Layer 15: one share goes out of a slice. -/
import Derived.Test.YtclekllaikcglaaGreatBarG
import Derived.Maps.AppendAt
import Derived.Deep.CutRange
namespace Go.Proofs.YtclekllaikcglaaGreat
open Go Go.RowKit

theorem addr_add1 (g off j : Nat) : (⟨g, off, none⟩ : Addr).add j = ⟨g, off + j, none⟩ := by
  by_cases h : j = 0 <;> simp [Addr.add, h]
theorem does_appS {o : Oper} {a : Act} {w : World} {R : Value → World → Prop} (B : Nat) (hB : B ≤ w.heap.size) (v : Value) (xs : List Value) (s x : Operand)
    (ho : o.op = .call { callee := .builtin .append, args := #[s, x], argTypes := #[25, 25] }) (hs : a.eval s = v) (hown : Row w B 9 v xs)
    (g off m c : Nat) (news : List Value) (hx : a.eval x = .slice (some ⟨g, off, none⟩) m c) (hm : news.length = m) (hc : ∀ j u, news[j]? = some u → w.cell? ⟨g, off + j, none⟩ = some u) (h1 : ∀ u ∈ news, u.oneCell' = true) (hlen : xs.length + m ≤ 1000)
    (h : ∀ v' w', Row w' B 9 v' (xs ++ news) → w.grownBy w' v.ownBlock → (v'.ownBlock = v.ownBlock ∨ v'.ownBlock = some w.heap.size) → R v' w') : Loud.does Tryz.prog o a w R := by
  obtain ⟨i0, hi, hz0, hz1, hz2⟩ := info_parts2 info_str
  obtain ⟨v', w', hr, h2, h3, _, h5⟩ := run_append_own_at (P := Tryz.prog) w B 25 o.type 9 i0 _ 1 16 und_strs hi hz0 hz1 hz2 rfl (by omega) v xs.length xs hown ⟨g, off, none⟩ m c news (by omega) (by
    intro j u hj
    rw [addr_add1]
    exact hc j u hj) h1 (by unfold maxLen; omega) (by omega) hB
  unfold Loud.does execOp
  simp only [ho, resolve, invoke, builtin, Sem.run_bind, Sem.run_pure, Result.andThen_ok, List.map_toArray, List.map_cons, List.map_nil, hs, hx, hr]
  exact h v' w' (by unfold Row; rw [List.length_append, hm]; exact h2) h3 h5
theorem row_take {w : World} {B g n cap : Nat} {e : TypeId} {xs : List Value} (h : Row w B e (.slice (some ⟨g, 0, none⟩) n cap) xs) (k : Nat) (hk : k ≤ n) : Row w B e (.slice (some ⟨g, 0, none⟩) k cap) (xs.take k) := by
  have hn := h.len_eq
  have hl : (xs.take k).length = k := by rw [List.length_take]; omega
  refine ⟨by simp, ?_⟩
  rw [hl]
  rcases h.2 with ⟨h0, _⟩ | ⟨g', cap', cur, hv, hg, hh, h3, h4, h5, h6⟩
  · cases h0
  · injection hv with hv1 _ hv2
    refine .inr ⟨g', cap', cur, by rw [hv1, hv2], hg, hh, by omega, h4, h5, ?_⟩
    rw [← h6, List.take_take, Nat.mul_one, Nat.mul_one]
    congr 1; omega
theorem row_drop {w : World} {B g n cap : Nat} {e : TypeId} {xs : List Value} (h : Row w B e (.slice (some ⟨g, 0, none⟩) n cap) xs) (k : Nat) : ∀ j u, (xs.drop k)[j]? = some u → w.cell? ⟨g, k + j, none⟩ = some u := by
  intro j u hj
  rw [List.getElem?_drop] at hj
  obtain ⟨hi, hv⟩ := List.getElem?_eq_some_iff.1 hj
  rw [h.cellAt (k + j) hi, hv]
end Go.Proofs.YtclekllaikcglaaGreat
namespace Go.Proofs.YtclekllaikcglaaGreat
open Go Go.RowKit

/-- The barrier while shares come. -/
def ComeS (w : World) (xb bg bm : Nat) (hd : List UInt8) (N : Nat) (U : List (List UInt8)) (E : Eps) (ka : List UInt8) (J left : List Nat) (W : World) : Prop :=
  (left = [] → ∃ A : BA, A.b = xb ∧ BarO w [] A hd [] E (lastE E) ka W) ∧ (left ≠ [] → ∃ c, BarC w [] xb bg bm c 1 hd (gotJ N U J) W)
theorem grown_but {w w' : World} {g : Nat} (h : w.grownBy w' (some g)) : But [g] w w' :=
  ⟨h.os, h.tape, h.output, h.size, fun k hk hn => h.block k hk (by intro e; injection e with e; exact hn (by simp [e]))⟩
theorem erase_len {α : Type} (l : List α) (k : Nat) (hk : k < l.length) : (l.eraseIdx k).length = l.length - 1 := List.length_eraseIdx_of_lt hk
theorem come_next (w W W' : World) (xb bg bm B g : Nat) (hd : List UInt8) (N : Nat) (U : List (List UInt8)) (E : Eps) (ka : List UInt8) (J left : List Nat) (j k : Nat) (hk : k < left.length) (hB : w.heap.size ≤ B) (hg : B ≤ g) (hlo : xb < B ∧ bg < B ∧ bm < B)
    (h1 : left.length = 1 → ∃ A : BA, A.b = xb ∧ g ∉ A.all ∧ BarO w [] A hd [] E (lastE E) ka W) (h2 : left.length ≠ 1 → ∃ c, BarC w [] xb bg bm c 1 hd (gotJ N U (J ++ [j])) W) (hgr : W.grownBy W' (some g)) :
    ComeS w xb bg bm hd N U E ka (J ++ [j]) (left.eraseIdx k) W' := by
  have hl := erase_len left k hk
  refine ⟨fun h => ?_, fun h => ?_⟩
  · rw [h] at hl
    obtain ⟨A, hA, hn, hO⟩ := h1 (by simp at hl; omega)
    exact ⟨A, hA, hO.turn [g] (grown_but hgr) (by simp; omega) (by simpa using hn) (by simp) (by simp)⟩
  · obtain ⟨c, hC⟩ := h2 (by intro e; rw [e] at hl; exact h (List.length_eq_zero_iff.1 hl))
    exact ⟨c, hC.turn [g] (grown_but hgr) (by simp; omega) (by simp; omega) (by simp) (by simp)⟩
theorem perm_next (J left : List Nat) (k : Nat) (hk : k < left.length) : ((J ++ [left[k]]) ++ left.eraseIdx k).Perm (J ++ left) := by
  rw [List.append_assoc]
  refine List.Perm.append_left J ?_
  rw [List.eraseIdx_eq_take_drop_succ]
  refine (List.perm_middle (l₁ := List.take k left) (l₂ := List.drop (k + 1) left)).symm.trans ?_
  rw [← List.drop_eq_getElem_cons hk, List.take_append_drop]
theorem nonce_two : ∃ nn : List UInt8, nn.length = 12 ∧ ∀ W, Calls Tryz.prog 11 #[.string { data := #[50] }, .bool true] W fun e w' => e = .returned (.string (bs nn)) ∧ Ext W w' :=
  ⟨padTo 12 [50], padTo_length 12 _, fun W => nonce15 [50] W (by simp)⟩
/-- What was closed by a key that is there is opened. -/
theorem any_there {E : Eps} {n ver : Nat} {key path nonce text : List UInt8} (hl : lookE E n = some key) (hno : nonce.length = 12) (hn : n < 4294967296) (ht : text.length ≤ 1048576) :
    openAny E path ver (envL key n nonce text ++ tagL key path ver (envL key n nonce text)) = (text, 0) := by
  unfold openAny
  rw [ep_env key path nonce text n ver hno hn ht]
  simp only [hl]
  rw [open_close key path nonce text n ver hno]
  rfl
theorem map_erase {α β : Type} (f : α → β) (l : List α) (k : Nat) : (l.map f).take k ++ (l.map f).drop (k + 1) = (l.eraseIdx k).map f := by
  rw [List.eraseIdx_eq_take_drop_succ]; simp [List.map_take, List.map_drop]
/-- Behind Unseal of a share that stands in the slice. -/
structure UnS (w : World) (B xb bg bm : Nat) (hd : List UInt8) (N : Nat) (U : List (List UInt8)) (E : Eps) (ka : List UInt8) (J left : List Nat) (j gl cl : Nat) (w' : World) : Prop where
  lo : B ≤ gl
  row : Row w' B 9 (.slice (some ⟨gl, 0, none⟩) left.length cl) (left.map fun j => strV (shJ N U j))
  one : left.length = 1 → ∃ A : BA, A.b = xb ∧ gl ∉ A.all ∧ BarO w [] A hd [] E (lastE E) ka w'
  more : left.length ≠ 1 → ∃ c, BarC w [] xb bg bm c 1 hd (gotJ N U (J ++ [j])) w'
theorem unq_s {w : World} {B xb bg bm : Nat} {hd : List UInt8} {N : Nat} {U : List (List UInt8)} {E : Eps} {ka : List UInt8} {J left : List Nat} {j gl q cl : Nat} {e : Ending} {w' : World} (h : UnQ w B xb bg bm hd N U E ka J left j (.slice (some ⟨gl, 0, none⟩) q cl) e w') :
    e = .returned (.tuple #[.bool (decide (left.length = 1)), .int .i64 0]) ∧ UnS w B xb bg bm hd N U E ka J left j gl cl w' := by
  obtain ⟨he, g, cap, hv, h1, h2, h3, h4⟩ := h
  injection hv with hv1 hv2 hv3
  injection hv1 with hv1
  injection hv1 with hv1
  subst hv1 hv2 hv3
  exact ⟨he, h1, h2, h3, h4⟩
theorem UnS.size {w : World} {B xb bg bm : Nat} {hd : List UInt8} {N : Nat} {U : List (List UInt8)} {E : Eps} {ka : List UInt8} {J left : List Nat} {j gl cl : Nat} {w' : World} (h : UnS w B xb bg bm hd N U E ka J left j gl cl w') (hl : left ≠ []) : B ≤ w'.heap.size ∧ left.length ≤ cl := by
  rcases h.row.look with ⟨_, h1⟩ | ⟨g, cap, cur, hv, hg, hh, hcap, _⟩
  · exact absurd (List.map_eq_nil_iff.1 h1) hl
  · have := blk_lt hh
    rw [List.length_map] at hcap
    injection hv with hv1 hv2 hv3
    omega
theorem slice_look {w : World} {B q : Nat} {e : TypeId} {v : Value} {xs : List Value} (h : Row w B e v xs) (hq : xs.length = q) : ∃ al cl, v = .slice al q cl := by
  obtain ⟨al, cl, hv⟩ := (Row.sl h).look
  exact ⟨al, cl, by rw [hv, hq]⟩
end Go.Proofs.YtclekllaikcglaaGreat
set_option linter.unusedVariables false
namespace Go.Proofs.YtclekllaikcglaaGreat
open Go Go.RowKit

/-- A header (without its first byte) of that ring. -/
structure HdOk (root : List UInt8) (nb : Nat) (E : Eps) (T : List UInt8) : Prop where
  op : openAny [(1, root)] lblB nb T = (bytesE E, 0)
  len : T.length ≤ 1000000
  ep : epR T = (1, 0)
theorem hd_ok (root nonce : List UInt8) (nb : Nat) (E : Eps) (n : Nat) (hI : RI E n) (hno : nonce.length = 12) : HdOk root nb E (envL root 1 nonce (bytesE E) ++ tagL root lblB nb (envL root 1 nonce (bytesE E))) := by
  have hbl : (bytesE E).length ≤ 10000 := by rw [bytesE_length E hI.key]; have := hI.len; omega
  exact ⟨hd_open root nonce nb E n hI hno, by rw [List.length_append, envL_length _ _ _ _ hno, tagL_length]; omega, ep_env root lblB nonce (bytesE E) 1 nb hno (by omega) (by omega)⟩
theorem shs_range (ka : List UInt8) (l : List (List UInt8)) (N : Nat) (hN : l.length + 1 = N) : (shsL ka l).map strV = (List.range N).map fun j => strV (shJ N (shU ka l) j) := by
  subst hN
  apply List.ext_getElem
  · simp [shsL_length]
  · intro j h1 h2
    have h3 : j < l.length + 1 := by simpa using h2
    rw [List.getElem_map, List.getElem_map, List.getElem_range, shsL_at ka l j h3]
    rfl
/-- Between two rotations. -/
structure RotS (w : World) (F : List (Nat × Obj)) (A : BA) (N : Nat) (ka kb : List UInt8) (j : Nat) (E : Eps) (T : List UInt8) (W : World) : Prop where
  bar : BarO w F A (b8 N :: T) [] E (j + 1) ka W
  ok : HdOk ka N E T
  ri : RI E (j + 1)
  pos : PosE E
  len : E.length = j + 1
  one : lookE E 1 = some kb
theorem RotS.next {w : World} {F : List (Nat × Obj)} {A : BA} {N : Nat} {ka kb : List UInt8} {j : Nat} {E : Eps} {T : List UInt8} {W W' : World} (h : RotS w F A N ka kb j E T W) (hx : Ext W W') : RotS w F A N ka kb j E T W' :=
  ⟨h.bar.next hx, h.ok, h.ri, h.pos, h.len, h.one⟩
theorem RotS.go {w : World} {F : List (Nat × Obj)} {A : BA} {N : Nat} {ka kb key nonce : List UInt8} {j : Nat} {E : Eps} {T : List UInt8} {W : World} (h : RotS w F A N ka kb j E T W) (hN : N < 256) (hj : j < 60) (hr : ka.length = 32) (hk : key.length = 32) (hno : nonce.length = 12) :
    Calls Tryz.prog 20 #[.pointer (some ⟨A.b, 0, none⟩), .string (bs key), .string (bs nonce)] W fun e w' => e = .returned (.tuple #[.int .u32 ((j + 2 : Nat) : Int), .int .i64 0]) ∧ ∃ T', RotS w F A N ka kb (j + 1) (E ++ [(j + 2, key)]) T' w' := by
  have hl := h.len
  have hI2 := h.ri.rot (key := key) (by omega) hk
  have hnb : (b8 N).toNat = N := b8_toNat N hN
  refine (bar_Rotate w W F A (b8 N) T [] E (j + 1) ka key nonce h.bar h.ri (by omega) (by omega) hr hk hno).mono ?_
  rintro e w' ⟨rfl, h2⟩
  rw [hnb] at h2
  exact ⟨rfl, _, h2, hd_ok ka nonce N _ (j + 2) hI2 hno, hI2, h.pos.rot (j + 1) key, by simp [hl], lookE_left h.one⟩
/-- The texts that a root is split by. -/
def lsN (b : List UInt8) (i : Nat) : List (List UInt8) := (List.range i).map fun j => padTo 32 (b ++ [b8 j])
theorem lsN_length (b : List UInt8) (i : Nat) : (lsN b i).length = i := by simp [lsN]
theorem lsN_succ (b : List UInt8) (i : Nat) : lsN b (i + 1) = lsN b i ++ [padTo 32 (b ++ [b8 i])] := by simp [lsN, List.range_succ]
theorem lsN_len (b : List UInt8) (i : Nat) : ∀ s ∈ lsN b i, s.length = 32 := by
  intro s hs
  obtain ⟨j, _, rfl⟩ := List.mem_map.1 hs
  exact padTo_length 32 _
set_option maxRecDepth 100000 in
set_option maxHeartbeats 16000000 in
theorem law_BarrierBack (w : World) (a b text : List UInt8) (n : UInt8) (order : List UInt8) (ado : Option Addr) (co : Nat) (keys : List (List UInt8)) (ad : Option Addr) (cp : Nat) (anew : Bool)
    (ha : a.length ≤ 140737488351232) (hb : b.length ≤ 140737488351232) (ht : text.length ≤ 140737488351232) (hol : order.length ≤ 140737488351232) (ho : Sl w (.slice ado order.length co) (order.map (fun x => .int .u8 (x.toNat : Int)))) (hkl : keys.length ≤ 8796093022208) (hkb : ∀ x ∈ keys, x.length ≤ 140737488351232) (hk : Sl w (.slice ad keys.length cp) (keys.map strV)) :
    Calls Tryz.prog 4 #[.string (bs a), .string (bs b), .string (bs text), .int .u8 (n.toNat : Int), .slice ado order.length co, .slice ad keys.length cp, .bool anew] w fun e w' => e = .returned (.bool true) ∧ Ext w w' := by
  have GW := Lib.hid works15
  obtain ⟨nn2, hnn2, gn2⟩ := nonce_two
  have HN2 := Lib.hid (And.intro hnn2 gn2)
  clear hnn2 gn2
  have HKS := Lib.hid hk
  have HOS := Lib.hid ho
  have wab : IntKind.i64.wrap ((a.length : Int) + (b.length : Int)) = (a.length : Int) + (b.length : Int) := by rw [IntKind.wrap_i64]; omega
  have wabt : IntKind.i64.wrap ((a.length : Int) + (b.length : Int) + (text.length : Int)) = (a.length : Int) + (b.length : Int) + (text.length : Int) := by rw [IntKind.wrap_i64]; omega
  by_cases h1 : 1000 < a.length + b.length + text.length
  · have h1i : (1000 : Int) < (a.length : Int) + (b.length : Int) + (text.length : Int) := by omega
    clear h1
    clear hol ho hkl hkb hk ha hb ht
    go_enter Tryz.func4, Tryz.ntmps4
    go_wp2_with (go_at_call 7; (with_reducible refine (GW.out _).mono ?_); rintro e w1 ⟨rfl, hx1⟩)
    go_returns
    exact ⟨rfl, hx1⟩
  have h1d : decide ((1000 : Int) < (a.length : Int) + (b.length : Int) + (text.length : Int)) = false := by simp; omega
  by_cases h2 : 40 < order.length
  · have h2i : (40 : Int) < (order.length : Int) := by omega
    clear h1 h2
    clear hol ho hkl hkb hk ha hb ht
    go_enter Tryz.func4, Tryz.ntmps4
    go_wp2_with (go_at_call 7; (with_reducible refine (GW.out _).mono ?_); rintro e w1 ⟨rfl, hx1⟩)
    go_returns
    exact ⟨rfl, hx1⟩
  have h2d : decide ((40 : Int) < (order.length : Int)) = false := by simp; omega
  by_cases h3 : 5 < keys.length
  · have h3i : (5 : Int) < (keys.length : Int) := by omega
    clear h1 h2 h3
    clear hol ho hkl hkb hk ha hb ht
    go_enter Tryz.func4, Tryz.ntmps4
    go_wp2_with (go_at_call 7; (with_reducible refine (GW.out _).mono ?_); rintro e w1 ⟨rfl, hx1⟩)
    go_returns
    exact ⟨rfl, hx1⟩
  have h3d : decide ((5 : Int) < (keys.length : Int)) = false := by simp; omega
  obtain ⟨K, hK⟩ : ∃ K, keys.length = K := ⟨_, rfl⟩
  have HK := Lib.hid hK
  have HB : Hid (a.length + b.length + text.length ≤ 1000 ∧ order.length ≤ 40 ∧ keys.length ≤ 5) := Lib.hid (by omega)
  have hK5 : K ≤ 5 := by omega
  rw [hK] at h3d ⊢
  clear h1 h2 h3 hol ho hkl hkb hk ha hb ht hK
  go_enter Tryz.func4, Tryz.ntmps4
  go_wp2_with fail
  go_loopg [15] K (fun q s15 wr => ∃ k : Nat, s15 = .int .i64 (k : Int) ∧ k + q = K ∧ w = wr ∧ Hid (∀ j (hj : j < keys.length), j < k → keys[j].length ≤ 100))
  case atStart => exact ⟨0, rfl, by omega, rfl, Lib.hid (fun j _ h => by omega)⟩
  case round =>
    obtain ⟨k, rfl, hkq, rfl, HL⟩ := hrel
    cases gk with
    | succ q =>
      have hkK : k < keys.length := by have := HK.out; omega
      obtain ⟨bk, ok, rfl, hbk, hck⟩ := HKS.out.str k hkK
      have hki : (k : Int) < (K : Int) := by omega
      obtain ⟨y, hy⟩ : ∃ y, keys[k] = y := ⟨_, rfl⟩
      rw [hy] at hck
      have HY := Lib.hid hy
      clear hy hbk
      by_cases h100 : 100 < y.length
      · have h100i : (100 : Int) < (y.length : Int) := by omega
        clear h100
        go_wp2_with (go_at_call 7; (with_reducible refine (GW.out _).mono ?_); rintro e w1 ⟨rfl, hx1⟩)
        go_returns
        exact ⟨rfl, hx1⟩
      · have h100d : decide ((100 : Int) < (y.length : Int)) = false := by simp; omega
        have HY2 : Hid (y.length ≤ 100) := Lib.hid (by omega)
        clear h100
        go_wp2_with fail
        go_roundg q
        case measure => omega
        case rel => exact ⟨k + 1, by go_num, by omega, rfl, Lib.hid (fun j hj h => by
          by_cases hjk : j = k
          · subst hjk; rw [HY.out]; exact HY2.out
          · exact HL.out j hj (by omega))⟩
    | zero =>
    obtain rfl : K = k := by omega
    have hlt : decide ((K : Int) < (K : Int)) = false := by simp
    have HKL : Hid (∀ y ∈ keys, y.length ≤ 100) := Lib.hid (fun y hy => by
      obtain ⟨j, hj, rfl⟩ := List.getElem_of_mem hy
      exact HL.out j hj (by have := HK.out; omega))
    have GNew := Lib.hid (bar_New_c w w [] (Ext.refl w) (by simp))
    clear HL
    go_upto_region 10 with (go_at_call 8; (with_reducible refine GNew.out.mono ?_); rintro e w1 ⟨xb, bg, bm, rfl, h1, _, _, _, hx1⟩; have HC := Lib.hid h1; have HX1 := Lib.hid hx1; clear h1 hx1)
    obtain ⟨m6, hm6⟩ : ∃ m6, n.toNat % 6 = m6 := ⟨_, rfl⟩
    have hm6l : m6 < 6 := by omega
    have hrm : (n.toNat : Int).tmod 6 = (m6 : Int) := by rw [Int.tmod_eq_emod_of_nonneg (by omega)]; omega
    have hwm : IntKind.i64.wrap (m6 : Int) = (m6 : Int) := by rw [IntKind.wrap_i64]; omega
    have hwm8 : IntKind.u8.wrap (m6 : Int) = (m6 : Int) := by rw [IntKind.wrap_u8]; omega
    have HR0 : Hid (Row w1 w1.heap.size 9 (.slice none 0 0) ((lsN b 0).map strV)) := Lib.hid (Row.nil _ _ _)
    have HE0 : Hid (Ext w1 w1) := Lib.hid (Ext.refl w1)
    clear GNew hm6 h1d h2d h3d wab wabt hlt
    go_wp2_with fail
    go_loopg [17, 18] m6 (fun q s17 s18 wr => ∃ i : Nat, s18 = .int .i64 (i : Int) ∧ i + q = m6 ∧ Hid (Row wr w1.heap.size 9 s17 ((lsN b i).map strV)) ∧ Hid (Ext w1 wr))
    case atStart => exact ⟨0, rfl, by omega, HR0, HE0⟩
    case round =>
      obtain ⟨i, rfl, hiq, HR, HE⟩ := hrel
      clear HR0 HE0
      cases gk with
      | succ q =>
        have hi6 : i < 6 := by omega
        have hii : (i : Int) < (m6 : Int) := by omega
        have hw8 : IntKind.u8.wrap (i : Int) = ((b8 i).toNat : Int) := by rw [b8_toNat _ (by omega), IntKind.wrap_u8]; omega
        have ks := one_str (b8 i)
        have hbl := HB.out
        have hbx : ¬ 9223372036854775807 < b.length + 1 := by omega
        have GF := Lib.hid (fun W => full13 (b ++ [b8 i]) W (by simp; omega))
        have HS : Hid ((lsN b (i + 1)).map strV = (lsN b i).map strV ++ [strV (padTo 32 (b ++ [b8 i]))]) := Lib.hid (by rw [lsN_succ]; simp)
        have HLN : Hid (((lsN b i).map strV).length = i) := Lib.hid (by rw [List.length_map, lsN_length])
        generalize padTo 32 (b ++ [b8 i]) = ki at *
        generalize b8 i = y at *
        have hsz := HE.out.size
        clear hbl
        go_wp2_with (first
          | (go_at_call 9; (with_reducible refine (GF.out _).mono ?_); rintro e w2 ⟨rfl, hx2⟩; have hx2s := hx2.size; have HX2 := Lib.hid (((Ext.refl wr).alloc (.cells #[.int .u8 (y.toNat : Int)] 5)).trans hx2))
          | (at_builtin; refine wpl_append rfl _ _ 25 rfl und_strs info_str rfl (by omega) w1.heap.size (by have := HX2.out.size; simp; omega) _ ((lsN b i).map strV) rfl (HR.out.ext (HX2.out.alloc _)) ⟨w2.heap.size, 0, none⟩ 1 1 [strV ki] rfl rfl (cells_one_new _ _ _) (oneCells [ki] (fun _ => rfl)) (by rw [HLN.out]; omega) ?_; intro v' w3 hrow3 hb3 _; have HR3 := Lib.hid hrow3; have HE3 := Lib.hid (((HE.out.trans HX2.out).alloc (.cells #[.string (bs ki)] 9)).trans_below hb3 (Nat.le_refl _)); clear hrow3 hb3))
        go_roundg q
        case measure => omega
        case rel => exact ⟨i + 1, by go_num, by omega, Lib.hid (by rw [HS.out]; exact HR3.out), HE3⟩
      | zero =>
      obtain rfl : i = m6 := by omega
      have hlt : decide ((i : Int) < (i : Int)) = false := by simp
      have hab := HB.out
      have GFa := Lib.hid (fun W => full13 a W (by omega))
      have GFb := Lib.hid (fun W => full13 b W (by omega))
      have GN0 : Hid (∀ W, Calls Tryz.prog 11 #[.string { data := #[48] }, .bool true] W fun e w' => e = .returned (.string (bs (padTo 12 [48]))) ∧ Ext W w') := Lib.hid fun W => nonce15 [48] W (by simp)
      have GN1 : Hid (∀ W, Calls Tryz.prog 11 #[.string { data := #[49] }, .bool true] W fun e w' => e = .returned (.string (bs (padTo 12 [49]))) ∧ Ext W w') := Lib.hid fun W => nonce15 [49] W (by simp)
      have hr : (padTo 32 a).length = 32 := padTo_length 32 _
      have hk : (padTo 32 b).length = 32 := padTo_length 32 _
      have hn0 : (padTo 12 [48]).length = 12 := padTo_length 12 _
      have hn1 : (padTo 12 [49]).length = 12 := padTo_length 12 _
      generalize padTo 32 a = ka at *
      generalize padTo 32 b = kb at *
      generalize padTo 12 [48] = nn0 at *
      generalize padTo 12 [49] = nn1 at *
      obtain ⟨al, cl, rfl⟩ := (Row.sl HR.out).look
      have hl6 := lsN_length b i
      have hl32 := lsN_len b i
      have HLS := Lib.hid (Row.sl HR.out)
      rw [List.length_map] at HLS ⊢
      rw [hl6] at HLS ⊢
      generalize lsN b i = l at *
      have hI := ri_one kb hk
      obtain ⟨N, hN⟩ : ∃ N, i + 1 = N := ⟨_, rfl⟩
      have GBG : Hid (∀ (W : World), BarC w [] xb bg bm 0 0 [] [] W → Sl W (.slice al i cl) (l.map strV) → Calls Tryz.prog 10 #[.pointer (some ⟨xb, 0, none⟩), .string (bs ka), .string (bs kb), .string (bs nn0), .slice al i cl] W fun e w' =>
          ∃ (A : BA) (g cap : Nat) (o : Obj), A.b = xb ∧ A.bg = bg ∧ A.bm = bm ∧ e = .returned (.tuple #[.slice (some ⟨g, 0, none⟩) N cap, .int .i64 0]) ∧ BarO w [(g, o)] A (b8 N :: (envL ka 1 nn0 (bytesE [(1, kb)]) ++ tagL ka lblB N (envL ka 1 nn0 (bytesE [(1, kb)])))) [] [(1, kb)] 1 ka w' ∧
            (∀ W : World, W.heap[g]? = some o → ∀ j (hj : j < (shsL ka l).length), W.cell? ⟨g, j, none⟩ = some (strV (shsL ka l)[j]))) :=
        Lib.hid (fun W h hv => by
          have := bar_Begin w W [] xb bg bm 0 ka kb nn0 l al cl h hr hk hn0 (by rw [hl6]; exact hv) (by omega) hl32
          unfold BegX at this
          rw [hl6, hN] at this
          exact this)
      have HOK0 := Lib.hid (hd_ok ka nn0 N [(1, kb)] 1 hI hn0)
      generalize envL ka 1 nn0 (bytesE [(1, kb)]) ++ tagL ka lblB N (envL ka 1 nn0 (bytesE [(1, kb)])) = T0 at *
      have GP : Hid (∀ F A hd W, BarO w F A hd [] [(1, kb)] 1 ka W → Calls Tryz.prog 16 #[.pointer (some ⟨A.b, 0, none⟩), .string { data := #[112] }, .int .u64 7, .string (bs nn1), .string (bs text)] W fun e w' => e = .returned (.tuple #[.string (bs (envL kb 1 nn1 text ++ tagL kb [112] 7 (envL kb 1 nn1 text))), .int .i64 0]) ∧ BarO w F A hd [] [(1, kb)] 1 ka w') :=
        Lib.hid (fun F A hd W h => bar_Put w W F A hd [] [(1, kb)] 1 ka kb [112] nn1 text 7 h hI (by omega) (look_one kb) (by unfold U64; omega) hn1 (by simp) (by omega))
      have HES := Lib.hid (And.intro (ep_env kb [112] nn1 text 1 7 hn1 (by omega) (by omega)) (open_close kb [112] nn1 text 1 7 hn1))
      have HSL7 : Hid ((envL kb 1 nn1 text ++ tagL kb [112] 7 (envL kb 1 nn1 text)).length ≤ 1000000) := Lib.hid (by rw [List.length_append, envL_length _ _ _ _ hn1, tagL_length]; omega)
      generalize envL kb 1 nn1 text ++ tagL kb [112] 7 (envL kb 1 nn1 text) = S7 at *
      have hNi : (i : Int) + 1 = (N : Int) := by omega
      have HFIN : Hid (l.length = i ∧ (∀ s ∈ l, s.length = 32) ∧ i + 1 = N ∧ i < 6 ∧ ka.length = 32 ∧ kb.length = 32) := Lib.hid ⟨hl6, hl32, hN, by omega, hr, hk⟩
      have hi6 : i < 6 := by omega
      have HI1 := Lib.hid hI
      have HZ : Hid (Ext wr wr) := Lib.hid (Ext.refl wr)
      clear hab hr hk hn0 hn1 hl6 hl32 hI hN HR
      go_upto_region 15 with (first
        | (go_at_call 9; (with_reducible refine (GFa.out _).mono ?_); rintro e w2 ⟨rfl, hx2⟩; have h1 := HZ.out.trans hx2; clear HZ hx2; have HZ := Lib.hid h1; clear h1)
        | (go_at_call 9; (with_reducible refine (GFb.out _).mono ?_); rintro e w2 ⟨rfl, hx2⟩; have h1 := HZ.out.trans hx2; clear HZ hx2; have HZ := Lib.hid h1; clear h1)
        | (go_at_call 11; (with_reducible refine (GN0.out _).mono ?_); rintro e w2 ⟨rfl, hx2⟩; have h1 := HZ.out.trans hx2; clear HZ hx2; have HZ := Lib.hid h1; clear h1)
        | (go_at_call 10; (with_reducible refine (GBG.out _ (HC.out.next (HE.out.trans HZ.out)) (HLS.out.ext HZ.out)).mono ?_); rintro e w3 ⟨A, g, cap, o, ha1, ha2, ha3, rfl, h3, hcell⟩; subst ha1; subst ha2; subst ha3; have HO := Lib.hid h3; have HCL := Lib.hid hcell; clear h3 hcell))
      go_upto_region 18 with (first
        | (go_at_call 11; (with_reducible refine (GN1.out _).mono ?_); rintro e w2 ⟨rfl, hx2⟩; have h1 := HO.out.next hx2; clear HO hx2; have HO := Lib.hid h1; clear h1)
        | (go_at_call 16; (with_reducible refine (GP.out _ A _ _ HO.out).mono ?_); rintro e w4 ⟨rfl, h1⟩; clear HO; have HO := Lib.hid h1; clear h1))
      clear HC HX1 HE HZ GBG GFa GFb GN0 GN1 GP HLS
      have HRS : Hid (∃ T, RotS w [(g, o)] A N ka kb 0 [(1, kb)] T w4) := Lib.hid ⟨T0, HO.out, HOK0.out, HI1.out, pos_one kb, rfl, look_one kb⟩
      clear HO HOK0 HI1
      go_wp2_with fail
      go_loopg [23] K (fun q s23 wr => ∃ (j : Nat) (E : Eps), s23 = .int .i64 (j : Int) ∧ j + q = K ∧ Hid (∃ T, RotS w [(g, o)] A N ka kb j E T wr))
      case atStart => exact ⟨0, [(1, kb)], rfl, by omega, HRS⟩
      case round =>
        obtain ⟨j, E, rfl, hjq, HS0⟩ := hrel
        clear HRS
        cases gk with
        | succ q =>
          obtain ⟨T, hRS⟩ := HS0.out
          have HRS := Lib.hid hRS
          clear hRS HS0
          have hjK : j < keys.length := by have := HK.out; omega
          obtain ⟨bk, ok, hado, hbk, hck⟩ := HKS.out.str j hjK
          subst hado
          have hjk5 : j < 5 := by omega
          have hki : (j : Int) < (K : Int) := by omega
          obtain ⟨y, hy⟩ : ∃ y, keys[j] = y := ⟨_, rfl⟩
          have hyl : y.length ≤ 100 := by rw [← hy]; exact HKL.out _ (List.getElem_mem hjK)
          rw [hy] at hck
          have hck2 := HRS.out.bar.ext.cell_of hck
          have GF := Lib.hid (fun W => full13 y W (by omega))
          have GNO := Lib.hid (fun W => nonce15 y W (by omega))
          have h32 : (padTo 32 y).length = 32 := padTo_length 32 y
          have h12 : (padTo 12 y).length = 12 := padTo_length 12 y
          have GRT := Lib.hid (fun W (h : RotS w [(g, o)] A N ka kb j E T W) => h.go (key := padTo 32 y) (nonce := padTo 12 y) (by have := HFIN.out; omega) (by omega) HFIN.out.2.2.2.2.1 h32 h12)
          generalize padTo 32 y = k32 at *
          generalize padTo 12 y = k12 at *
          obtain ⟨j2, hj2⟩ : ∃ j2, j + 2 = j2 := ⟨_, rfl⟩
          have hj2i : (j : Int) + 2 = (j2 : Int) := by omega
          have hj2w : IntKind.u32.wrap (j2 : Int) = (j2 : Int) := by rw [IntKind.wrap_u32]; omega
          rw [hj2] at GRT
          clear hy hbk h32 h12 hj2
          go_upto_region 21 with fail
          refine Loud.wp_region_loud (fun i => decide (i = 5 ∨ i = 10 ∨ i = 11)) 17 (fun w' => Ext w w') (by kernel_rfl) (by kernel_rfl) HRS.out.bar.ext.drew ?_
          simp only [List.take_succ_cons, List.take_zero]
          iterate 4 (refine Loud.lex_qe rfl rfl ?_; apply Exists.intro; refine ⟨fun wq hq => ?_, Loud.norm fun K hK => ?_⟩; (go_simp; try rfl); go_simp; refine hK _ ?_; clear hK K)
          refine Loud.lex_qe rfl rfl ?_; apply Exists.intro; refine ⟨fun wq hq => ?_, Loud.norm fun K hK => ?_⟩; (have hqc := hq.cell_of hck; go_simp; try rfl); go_simp; refine hK _ ?_; clear hK K
          refine Loud.lex_l rfl rfl (fun K hK => ?_); go_simp; refine (GF.out _).mono ?_; rintro e w5 ⟨rfl, hx5⟩; refine ⟨_, rfl, ?_⟩; go_simp; refine hK _ _ (HRS.out.bar.ext.drew.trans hx5) ?_; clear hK K
          iterate 3 (refine Loud.lex_qe rfl rfl ?_; apply Exists.intro; refine ⟨fun wq hq => ?_, Loud.norm fun K hK => ?_⟩; (go_simp; try rfl); go_simp; refine hK _ ?_; clear hK K)
          refine Loud.lex_qe rfl rfl ?_; apply Exists.intro; refine ⟨fun wq hq => ?_, Loud.norm fun K hK => ?_⟩; (have hqc := hq.cell_of hck; go_simp; try rfl); go_simp; refine hK _ ?_; clear hK K
          refine Loud.lex_l rfl rfl (fun K hK => ?_); go_simp; refine (GNO.out _).mono ?_; rintro e w6 ⟨rfl, hx6⟩; refine ⟨_, rfl, ?_⟩; go_simp; refine hK _ _ ((HRS.out.bar.ext.drew.trans hx5).trans hx6) ?_; clear hK K
          have HR6 : Hid (RotS w [(g, o)] A N ka kb j E T w6) := Lib.hid (HRS.out.next (((Ext.refl _).drew.trans hx5).trans hx6))
          clear hx5 hx6
          refine Loud.lex_l rfl rfl (fun K hK => ?_); go_simp; refine (GRT.out _ HR6.out).mono ?_; rintro e w7 ⟨rfl, T7, h7⟩; refine ⟨_, rfl, ?_⟩; go_simp; refine hK _ _ h7.bar.ext ?_; clear hK K; have HR7 : Hid (∃ T, RotS w [(g, o)] A N ka kb (j + 1) (E ++ [(j2, k32)]) T w7) := Lib.hid ⟨T7, h7⟩; clear h7
          iterate 5 (refine Loud.lex_qe rfl rfl ?_; apply Exists.intro; refine ⟨fun wq hq => ?_, Loud.norm fun K hK => ?_⟩; (go_simp; try rfl); go_simp; refine hK _ ?_; clear hK K)
          refine Loud.lex_nil ?_
          simp only [List.drop_succ_cons, List.drop_zero]
          go_wp2_with fail
          go_roundg q
          case measure => omega
          case rel => exact ⟨j + 1, _, by go_num, by omega, HR7⟩
        | zero =>
        obtain rfl : K = j := by omega
        have hlt : decide ((K : Int) < (K : Int)) = false := by simp
        obtain ⟨T, hRS⟩ := HS0.out
        have HRS := Lib.hid hRS
        clear hRS HS0
        have GHD := Lib.hid (fun (xb : Nat) (p q : Option Addr) (st bg : Nat) W (h : BCell W xb p st (b8 N :: T) q bg) => bar_Header h)
        have GSE := Lib.hid (fun W (h : RotS w [(g, o)] A N ka kb K E T W) => bar_Seal w W [(g, o)] A (b8 N :: T) [] E (K + 1) ka h.bar)
        have GLD := Lib.hid (fun (b bg bm c : Nat) W (h : BarC w [(g, o)] b bg bm c 0 [] [] W) => bar_Load w W [(g, o)] b bg bm c (b8 N) T [] 1 h (by have := HFIN.out; rw [b8_toNat N (by omega)]; omega) (by have := HFIN.out; rw [b8_toNat N (by omega)]; omega) HRS.out.ok.ep HRS.out.ok.len)
        have HTO := Lib.hid HRS.out.ok
        have HRI := Lib.hid (And.intro HRS.out.ri (And.intro HRS.out.pos (And.intro HRS.out.len HRS.out.one)))
        obtain ⟨hd, hhd⟩ : ∃ hd, b8 N :: T = hd := ⟨_, rfl⟩
        rw [hhd] at GHD GSE GLD
        have HHD := Lib.hid hhd
        have HRB : Hid (BCell wr A.b (some ⟨A.r, 0, none⟩) 2 hd (some ⟨A.rr, 0, none⟩) A.bg) := Lib.hid (hhd ▸ HRS.out.bar.cell)
        clear hhd
        go_upto_if 166 with (first
          | (go_at_call 18; (with_reducible refine (GHD.out _ _ _ _ _ _ HRB.out).mono ?_); rintro e w' ⟨rfl, rfl⟩)
          | (go_at_call 12; (with_reducible refine (GSE.out _ HRS.out).mono ?_); rintro e w5 ⟨rfl, h1⟩; have HC := Lib.hid h1; have HRB2 := Lib.hid h1.cell; clear HRB h1)
          | (go_at_call 18; (with_reducible refine (GHD.out _ _ _ _ _ _ HRB2.out).mono ?_); rintro e w' ⟨rfl, rfl⟩))
        clear GSE HRS HRB2 GHD
        go_cut [16] from 166 to 171 (fun s16 wc => ∃ (xb bg bm c : Nat), s16 = .pointer (some ⟨xb, 0, none⟩) ∧ Hid (BarC w [(g, o)] xb bg bm c 1 hd [] wc))
        case first =>
          cases anew
          · go_wp2_with fail
            go_meet
            case rel => exact ⟨A.b, A.bg, A.bm, A.c, rfl, HC⟩
          · have GNW := Lib.hid (fun W (h : BarC w [(g, o)] A.b A.bg A.bm A.c 1 hd [] W) => bar_New_c w W [(g, o)] h.ext h.keep)
            go_wp2_with (first
              | (go_at_call 8; (with_reducible refine (GNW.out _ HC.out).mono ?_); rintro e w6 ⟨xb, bg, bm, rfl, h1, _, _, _, _⟩; have HC2 := Lib.hid h1; clear h1)
              | (go_at_call 17; (with_reducible refine (GLD.out _ _ _ _ _ HC2.out).mono ?_); rintro e w7 ⟨rfl, h1⟩; have HC3 := Lib.hid h1; clear h1))
            go_meet
            case rel => exact ⟨xb, bg, bm, 0, rfl, HC3⟩
        case rest =>
        clear HC GLD
        obtain ⟨xb, bg, bm, c, rfl, HC⟩ := hcut
        obtain ⟨wo, hwo⟩ : ∃ wo, wo = wc := ⟨_, rfl⟩
        subst hwo
        obtain ⟨hl6, hl32, hiN, hi6', hka, hkb⟩ := HFIN.out
        have HSLS : Hid (Sl wo (.slice (some ⟨g, 0, none⟩) N cap) ((shsL ka l).map strV)) := Lib.hid ⟨some ⟨g, 0, none⟩, cap, by rw [List.length_map, shsL_length]; simp [hl6, hiN], fun j hj => ⟨g, 0, rfl, blk_lt (HC.out.keep (g, o) (by simp)), by
          have hj2 : j < (shsL ka l).length := by simpa using hj
          have := HCL.out wo (HC.out.keep (g, o) (by simp)) j hj2
          rw [Nat.zero_add, this]; simp⟩⟩
        have HOC : Hid (∀ u ∈ (shsL ka l).map strV, u.oneCell' = true) := Lib.hid (oneCells _ (fun _ => rfl))
        have HN16 : Hid (N ≤ 16) := Lib.hid (by omega)
        clear hl6 hl32 hiN hi6' hka hkb
        go_upto_region 32 with (at_builtin; refine wpl_append_sl rfl _ _ 25 rfl und_strs info_str rfl (by omega) wo.heap.size (Nat.le_refl _) _ [] rfl (Row.nil _ _ _) (some ⟨g, 0, none⟩) N cap ((shsL ka l).map strV) rfl HSLS.out HOC.out (by have := HN16.out; simp; omega) ?_; intro v' w8 hrow hb8; have HR := Lib.hid hrow; have HB8 := Lib.hid hb8; clear hrow hb8)
        have HUU : Hid ((shU ka l).length = N ∧ (∀ s ∈ shU ka l, s.length = 32) ∧ lastS (List.replicate 32 0) (shU ka l) = ka) := Lib.hid ⟨by rw [shU_length]; have := HFIN.out; omega, shU_len ka l HFIN.out.2.2.2.2.1 HFIN.out.2.1, shU_secret ka l HFIN.out.2.2.2.2.1 HFIN.out.2.1⟩
        have HR2 : Hid (Row w8 wo.heap.size 9 v' ((List.range N).map fun j => strV (shJ N (shU ka l) j))) := Lib.hid (by
          rw [← shs_range ka l N (by have := HFIN.out; omega)]
          exact HR.out)
        generalize shU ka l = U at *
        obtain ⟨al2, cl2, rfl⟩ := (Row.sl HR2.out).look
        rw [List.length_map, List.length_range] at HR2 ⊢
        have HCS : Hid (ComeS w xb bg bm hd N U E ka [] (List.range N) w8) := Lib.hid ⟨fun h => by have := congrArg List.length h; rw [List.length_range] at this; have := HFIN.out; simp at *; omega, fun _ => ⟨c, (HC.out.next HB8.out).turn (F' := []) [] (But.refl _ _) (by simp) (by simp) (by simp) (by simp)⟩⟩
        have HP0 : Hid (([] ++ List.range N).Perm (List.range N)) := Lib.hid (List.Perm.refl _)
        have HLT : Hid (xb < wo.heap.size ∧ bg < wo.heap.size ∧ bm < wo.heap.size) := Lib.hid (by
          have h1 := blk_lt HC.out.cell
          obtain ⟨_, n1, s1, _, _, k3, k4, _⟩ := HC.out.got
          exact ⟨h1, blk_lt k3, blk_lt k4⟩)
        have HSZ : Hid (wo.heap.size ≤ w8.heap.size) := Lib.hid HB8.out.size
        have HXB : Hid (w.heap.size ≤ wo.heap.size) := Lib.hid HC.out.ext.size
        clear HR HB8 HC HSLS HOC HCL
        go_wp2_with fail
        go_loopg [27, 28] N (fun q s27 s28 wr => ∃ (i : Nat) (J left : List Nat) (al : Option Addr) (cl : Nat), s27 = .slice al q cl ∧ s28 = .int .i64 (i : Int) ∧ left.length = q ∧ i + q = N ∧ Hid (Row wr wo.heap.size 9 (.slice al q cl) (left.map fun j => strV (shJ N U j))) ∧ Hid ((J ++ left).Perm (List.range N)) ∧ Hid (ComeS w xb bg bm hd N U E ka J left wr) ∧ Hid (wo.heap.size ≤ wr.heap.size))
        case atStart => exact ⟨0, [], List.range N, al2, cl2, rfl, rfl, List.length_range, by omega, HR2, HP0, HCS, HSZ⟩
        case round =>
          obtain ⟨i2, J, left, al, cl, rfl, rfl, hlq, hiq, HRW, HPM, HCM, HSZ2⟩ := hrel
          clear HR2 HCS HP0 HSZ
          cases gk with
          | succ q =>
            have hq1 : (0 : Int) < ((q + 1 : Nat) : Int) := by omega
            obtain ⟨Q, hQ⟩ : ∃ Q, q + 1 = Q := ⟨_, rfl⟩
            rw [hQ] at hq1 hlq hiq HRW ⊢
            have hQ16 : Q ≤ 16 := by have := HN16.out; omega
            obtain ⟨c2, HC⟩ : ∃ c2, Hid (BarC w [] xb bg bm c2 1 hd (gotJ N U J) wr) := by
              obtain ⟨c2, h⟩ := HCM.out.2 (by intro e; rw [e] at hlq; simp at hlq; omega)
              exact ⟨c2, Lib.hid h⟩
            have HQ := Lib.hid hQ
            clear hQ
            go_upto_if 182 with fail
            go_cut [29] from 183 to 190 (fun s29 wd => ∃ k : Nat, s29 = .int .i64 (k : Int) ∧ k < Q ∧ wr = wd)
            case first =>
              by_cases hio : i2 < order.length
              · obtain ⟨bo, oo, hao, hbo, hco⟩ := HOS.out.at_ i2 (by simpa using hio)
                subst hao
                rw [List.getElem_map] at hco
                have hco2 := HC.out.ext.cell_of hco
                obtain ⟨z, hz⟩ : ∃ z, order[i2] = z := ⟨_, rfl⟩
                rw [hz] at hco2
                have hioi : (i2 : Int) < (order.length : Int) := by omega
                have hzl := z.toNat_lt
                have hrm : (z.toNat : Int).tmod (Q : Int) = ((z.toNat % Q : Nat) : Int) := by rw [Int.tmod_eq_emod_of_nonneg (by omega)]; omega
                have hkq : z.toNat % Q < Q := Nat.mod_lt _ (by omega)
                obtain ⟨k, hk⟩ : ∃ k, z.toNat % Q = k := ⟨_, rfl⟩
                rw [hk] at hrm hkq
                have hwz : IntKind.i64.wrap (z.toNat : Int) = (z.toNat : Int) := by rw [IntKind.wrap_i64]; omega
                have hwk : IntKind.i64.wrap (k : Int) = (k : Int) := by rw [IntKind.wrap_i64]; omega
                have hQ0 : ¬ Q = 0 := by omega
                clear hz hk hco hbo hio
                go_wp2_with fail
                go_meet
                case rel => exact ⟨k, rfl, hkq, rfl⟩
              · have hiod : decide ((i2 : Int) < (order.length : Int)) = false := by simp; omega
                have hiod2 : decide (i2 < order.length) = false := by simpa using hio
                go_wp2_with fail
                go_meet
                case rel => exact ⟨0, rfl, by omega, rfl⟩
            case rest =>
            obtain ⟨k, rfl, hkQ, hwd⟩ := hcut
            subst hwd
            obtain ⟨gl, rfl⟩ : ∃ gl, al = some ⟨gl, 0, none⟩ := by
              rcases HRW.out.look with ⟨h0, h1⟩ | ⟨g', cap', cur, hv, _⟩
              · have h2 := congrArg List.length h1; rw [List.length_map, hlq, List.length_nil] at h2; exact absurd HQ.out (by omega)
              · injection hv with hv; exact ⟨g', hv⟩
            have hkl : k < left.length := by omega
            have hck : wr.cell? ⟨gl, k, none⟩ = some (.string (bs (shJ N U left[k]))) := by
              rw [HRW.out.cellAt k (by simpa using hkl)]
              simp [strV]
            have hkQi : (k : Int) < (Q : Int) := by omega
            obtain ⟨sk, hsk⟩ : ∃ sk, shJ N U left[k] = sk := ⟨_, rfl⟩
            rw [hsk] at hck
            have HSK := Lib.hid hsk
            obtain ⟨gs, hgs⟩ : ∃ gs, gotJ N U J = gs := ⟨_, rfl⟩
            rw [hgs] at HC
            have HGS := Lib.hid hgs
            clear hsk hgs
            have GGN : Hid (∀ W, BarC w [] xb bg bm c2 1 hd gs W → Calls Tryz.prog 21 #[.pointer (some ⟨xb, 0, none⟩), .string { data := #[112] }, .int .u64 7, .string (bs S7)] W fun e w' => e = .returned (.tuple #[.string { data := #[] }, .int .i64 150]) ∧ W = w') := Lib.hid (fun W h => bar_Get_no w W [] xb bg bm c2 1 hd gs [112] S7 7 h (by omega))
            have GPN : Hid (∀ W, BarC w [] xb bg bm c2 1 hd gs W → Calls Tryz.prog 16 #[.pointer (some ⟨xb, 0, none⟩), .string { data := #[112] }, .int .u64 8, .string (bs nn2), .string (bs text)] W fun e w' => e = .returned (.tuple #[.string { data := #[] }, .int .i64 150]) ∧ W = w') := Lib.hid (fun W h => bar_Put_no w W [] xb bg bm c2 1 hd gs [112] nn2 text 8 h (by omega))
            obtain ⟨bo, hbo⟩ : ∃ bo, decide (left.length = 1) = bo := ⟨_, rfl⟩
            have GU : Hid (∀ W, BarC w [] xb bg bm c2 1 hd gs W → Row W wo.heap.size 9 (.slice (some ⟨gl, 0, none⟩) Q cl) (left.map fun j => strV (shJ N U j)) → Calls Tryz.prog 13 #[.pointer (some ⟨xb, 0, none⟩), .string (bs sk)] W fun e w' => e = .returned (.tuple #[.bool bo, .int .i64 0]) ∧ UnS w wo.heap.size xb bg bm hd N U E ka J left left[k] gl cl w') := Lib.hid (fun W hc hr => by
              have hhd := HHD.out
              subst hhd
              rw [← HSK.out, ← hbo]
              rw [← HGS.out] at hc
              have hbl : (bytesE E).length ≤ 10000 := by rw [bytesE_length E HRI.out.1.key]; have := HRI.out.1.len; omega
              exact (left_unseal w W wo.heap.size xb bg bm c2 N U E ka T (bytesE E) J left _ k hkl hr HLT.out hc HPM.out HN16.out HUU.out.1 HUU.out.2.1 HUU.out.2.2 HFIN.out.2.2.2.2.1 HTO.out.op (readE_bytes E (K + 1) HRI.out.1 HRI.out.2.1 (by omega)) HTO.out.len (by omega)).mono (fun e w' h => unq_s h))
            have hq1e : ((Q : Int) == 1) = bo := by rw [← hbo, hlq]; by_cases h : Q = 1 <;> simp [h]; omega
            have hbb : (bo != bo) = false := by simp
            clear hbo HCM hrm hwm hwm8 hNi hi6 hm6l
            go_upto_region 40 with (first
              | (go_at_call 21; (with_reducible refine (GGN.out _ HC.out).mono ?_); rintro e w' ⟨rfl, rfl⟩)
              | (go_at_call 11; (with_reducible refine (HN2.out.2 _).mono ?_); rintro e w9 ⟨rfl, hx9⟩; have HC9 := Lib.hid (HC.out.next hx9); have HRW9 := Lib.hid (HRW.out.ext hx9); have hck9 := hx9.cell_of hck; clear hx9)
              | (go_at_call 16; (with_reducible refine (GPN.out _ HC9.out).mono ?_); rintro e w' ⟨rfl, rfl⟩))
            go_upto_region 43 with (go_at_call 13; (with_reducible refine (GU.out _ HC9.out HRW9.out).mono ?_); rintro e w10 ⟨rfl, hu⟩; have HU := Lib.hid hu; clear hu)
            have HSZ10 := Lib.hid (HU.out.size (by intro e; rw [e] at hlq; simp at hlq; omega))
            have hkc : (k : Int) ≤ (cl : Int) := by have := HSZ10.out.2; omega
            have hk1 : (k : Int) + 1 ≤ (Q : Int) := by omega
            have hQc : (Q : Int) ≤ (cl : Int) := by have := HSZ10.out.2; omega
            have hwk1 : IntKind.i64.wrap ((k : Int) + 1) = (k : Int) + 1 := by rw [IntKind.wrap_i64]; omega
            refine Loud.wp_region_loud (fun i => decide (i = 7)) 8 (fun _ => True) (by kernel_rfl) (by kernel_rfl) trivial ?_
            simp only [List.take_succ_cons, List.take_zero]
            iterate 7 (refine Loud.lex_qe rfl rfl ?_; apply Exists.intro; refine ⟨fun wq hq => ?_, Loud.norm fun K hK => ?_⟩; (go_simp; try rfl); go_simp; refine hK _ ?_; clear hK K)
            have HRT : Hid (Row w10.drew wo.heap.size 9 (.slice (some ⟨gl, 0, none⟩) k cl) ((left.map fun j => strV (shJ N U j)).take k)) := Lib.hid (row_take ((hlq ▸ HU.out.row).ext (Ext.refl _).drew) k (by omega))
            have hrd := row_drop ((hlq ▸ HU.out.row).ext (Ext.refl _).drew) (k + 1)
            obtain ⟨off, hof, hrd2⟩ : ∃ off, (if cl = k + 1 then some (⟨gl, 0, none⟩ : Addr) else some ⟨gl, k + 1, none⟩) = some ⟨gl, off, none⟩ ∧ ∀ j u, ((left.map fun j => strV (shJ N U j)).drop (k + 1))[j]? = some u → w10.drew.cell? ⟨gl, off + j, none⟩ = some u := by
              by_cases hcl : cl = k + 1
              · refine ⟨0, by rw [if_pos hcl], fun j u hj => ?_⟩
                rw [List.drop_eq_nil_of_le (by rw [List.length_map, hlq]; have := HSZ10.out.2; omega)] at hj
                cases hj
              · exact ⟨k + 1, by rw [if_neg hcl], hrd⟩
            have HOF := Lib.hid hof
            have HRD := Lib.hid hrd2
            clear hrd hof hrd2
            have HRN : Hid (((left.map fun j => strV (shJ N U j)).drop (k + 1)).length = Q - (k + 1)) := Lib.hid (by rw [List.length_drop, List.length_map, hlq])
            have HR1 : Hid (∀ u ∈ (left.map fun j => strV (shJ N U j)).drop (k + 1), u.oneCell' = true) := Lib.hid (fun u hu => by
              obtain ⟨j, _, rfl⟩ := List.mem_map.1 (List.mem_of_mem_drop hu)
              rfl)
            have HRL : Hid (((left.map fun j => strV (shJ N U j)).take k).length + (Q - (k + 1)) ≤ 1000) := Lib.hid (by rw [List.length_take, List.length_map]; omega)
            refine Loud.lex_l rfl rfl (fun K hK => ?_)
            refine does_appS wo.heap.size HSZ10.out.1 (.slice (some ⟨gl, 0, none⟩) k cl) _ (Operand.tmp 232) (Operand.tmp 236) rfl rfl HRT.out gl off (Q - (k + 1)) (cl - (k + 1)) _ (Eq.trans rfl (congrArg (fun z => Value.slice z (Q - (k + 1)) (cl - (k + 1))) HOF.out)) HRN.out HRD.out HR1.out HRL.out ?_
            intro v' w11 hrow hgr hob
            rw [map_erase] at hrow
            obtain ⟨al3, cl3, hv3⟩ := slice_look (q := q) hrow (by rw [List.length_map, erase_len left k hkl]; have := HQ.out; omega)
            subst hv3
            have HRW3 := Lib.hid hrow
            have HCS3 : Hid (ComeS w xb bg bm hd N U E ka (J ++ [left[k]]) (left.eraseIdx k) w11) := Lib.hid (come_next w w10.drew w11 xb bg bm wo.heap.size gl hd N U E ka J left left[k] k hkl HXB.out HU.out.lo HLT.out (fun h => by
              obtain ⟨A, h1, h2, h3⟩ := HU.out.one h
              exact ⟨A, h1, h2, h3.next (Ext.refl _).drew⟩) (fun h => by
              obtain ⟨c, h1⟩ := HU.out.more h
              exact ⟨c, h1.next (Ext.refl _).drew⟩) hgr)
            have HPM3 : Hid (((J ++ [left[k]]) ++ left.eraseIdx k).Perm (List.range N)) := Lib.hid ((perm_next J left k hkl).trans HPM.out)
            have HSZ3 : Hid (wo.heap.size ≤ w11.heap.size) := Lib.hid (Nat.le_trans HSZ10.out.1 hgr.size)
            have HEL : Hid ((left.eraseIdx k).length = q) := Lib.hid (by rw [erase_len left k hkl]; have := HQ.out; omega)
            have hiq3 : i2 + 1 + q = N := by have := HQ.out; omega
            have hi2l : i2 < 100 := by have := HN16.out; omega
            clear hrow hgr hob HRT HRD HRN HR1 HRL
            refine hK _ _ trivial ?_
            clear hK K
            refine Loud.lex_nil ?_
            simp only [List.drop_succ_cons, List.drop_zero]
            go_wp2_with fail
            all_goals
              go_roundg q
              case measure => omega
              case rel => exact ⟨i2 + 1, J ++ [left[k]], left.eraseIdx k, al3, cl3, rfl, by go_num, HEL.out, hiq3, HRW3, HPM3, HCS3, HSZ3⟩
          | zero =>
          obtain ⟨A2, hA2, hO⟩ := HCM.out.1 (List.length_eq_zero_iff.1 hlq)
          subst hA2
          have hI := HRI.out.1
          rw [hI.lastE] at hO
          have HO := Lib.hid hO
          obtain ⟨K1, hK1⟩ : ∃ K1, K + 1 = K1 := ⟨_, rfl⟩
          rw [hK1] at hI HO
          have hK1l : K1 < 100 := by omega
          obtain ⟨kn, hkn, hknl⟩ := hI.look
          have htx : text.length ≤ 1000 := by have := HB.out; omega
          have GG7 : Hid (∀ W, BarO w [] A2 hd [] E K1 ka W → Calls Tryz.prog 21 #[.pointer (some ⟨A2.b, 0, none⟩), .string { data := #[112] }, .int .u64 7, .string (bs S7)] W fun e w' => e = .returned (.tuple #[.string (bs text), .int .i64 0]) ∧ BarO w [] A2 hd [] E K1 ka w') := Lib.hid (fun W h => by
            have := bar_Get w W [] A2 hd [] E K1 ka [112] S7 7 h hI (by unfold U64; omega) (by simp) (Nat.le_trans HSL7.out (by omega))
            rw [show openAny E [112] 7 S7 = (text, 0) by unfold openAny; rw [HES.out.1]; simp only [HRI.out.2.2.2]; rw [HES.out.2]; rfl] at this
            exact this)
          have GP8 : Hid (∀ W, BarO w [] A2 hd [] E K1 ka W → Calls Tryz.prog 16 #[.pointer (some ⟨A2.b, 0, none⟩), .string { data := #[112] }, .int .u64 8, .string (bs nn2), .string (bs text)] W fun e w' => e = .returned (.tuple #[.string (bs (envL kn K1 nn2 text ++ tagL kn [112] 8 (envL kn K1 nn2 text))), .int .i64 0]) ∧ BarO w [] A2 hd [] E K1 ka w') := Lib.hid (fun W h =>
            bar_Put w W [] A2 hd [] E K1 ka kn [112] nn2 text 8 h hI (by omega) hkn (by unfold U64; omega) HN2.out.1 (by simp) (by omega))
          have GG8 : Hid (∀ W, BarO w [] A2 hd [] E K1 ka W → Calls Tryz.prog 21 #[.pointer (some ⟨A2.b, 0, none⟩), .string { data := #[112] }, .int .u64 8, .string (bs (envL kn K1 nn2 text ++ tagL kn [112] 8 (envL kn K1 nn2 text)))] W fun e w' => e = .returned (.tuple #[.string (bs text), .int .i64 0]) ∧ BarO w [] A2 hd [] E K1 ka w') := Lib.hid (fun W h => by
            have := bar_Get w W [] A2 hd [] E K1 ka [112] (envL kn K1 nn2 text ++ tagL kn [112] 8 (envL kn K1 nn2 text)) 8 h hI (by unfold U64; omega) (by simp) (by rw [List.length_append, envL_length _ _ _ _ HN2.out.1, tagL_length]; omega)
            rw [any_there hkn HN2.out.1 (by omega) (by omega)] at this
            exact this)
          generalize envL kn K1 nn2 text ++ tagL kn [112] 8 (envL kn K1 nn2 text) = S8 at GP8 GG8
          have GE : Hid (∀ W, BarO w [] A2 hd [] E K1 ka W → Calls Tryz.prog 19 #[.pointer (some ⟨A2.b, 0, none⟩)] W fun e w' => ∃ g cap, e = .returned (.slice (some ⟨g, 0, none⟩) K1 cap) ∧ BarO w [] A2 hd [] E K1 ka w') := Lib.hid (fun W h => (bar_Epochs w W [] A2 hd [] E K1 ka h hI).mono (by
            rintro e w' ⟨g, cap, rfl, _, h2⟩
            exact ⟨g, cap, by rw [HRI.out.2.2.1, hK1], h2⟩))
          have hK1i : (K : Int) + 1 = (K1 : Int) := by omega
          have hK1w : IntKind.i64.wrap (K1 : Int) = (K1 : Int) := by rw [IntKind.wrap_i64]; omega
          clear hO hI hkn hknl htx HCM HRW HPM HTO HLT HXB HUU hrm hwm hwm8 hNi hi6 hm6l HKL HOS HKS
          go_wp2_with (first
            | (go_at_call 21; (with_reducible refine (GG7.out _ HO.out).mono ?_); rintro e w9 ⟨rfl, h1⟩; clear HO; have HO := Lib.hid h1; clear h1)
            | (go_at_call 11; (with_reducible refine (HN2.out.2 _).mono ?_); rintro e w9 ⟨rfl, hx9⟩; have h1 := HO.out.next hx9; clear HO hx9; have HO := Lib.hid h1; clear h1)
            | (go_at_call 16; (with_reducible refine (GP8.out _ HO.out).mono ?_); rintro e w9 ⟨rfl, h1⟩; clear HO; have HO := Lib.hid h1; clear h1)
            | (go_at_call 21; (with_reducible refine (GG8.out _ HO.out).mono ?_); rintro e w9 ⟨rfl, h1⟩; clear HO; have HO := Lib.hid h1; clear h1)
            | (go_at_call 19; (with_reducible refine (GE.out _ HO.out).mono ?_); rintro e w9 ⟨ge, ce, rfl, h1⟩; clear HO; have HO := Lib.hid h1; clear h1)
            | (go_at_call 7; (with_reducible refine (GW.out _).mono ?_); rintro e w1 ⟨rfl, hx1⟩))
          go_returns
          exact ⟨rfl, HO.out.ext.trans hx1⟩
end Go.Proofs.YtclekllaikcglaaGreat
