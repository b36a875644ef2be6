import Derived.Test.YtclekllaikcglaaGreatHex
import Derived.Test.YtclekllaikcglaaGreatBase
import Derived.Test.YtclekllaikcglaaGreatLoud
import Derived.Handy

/- Contracts: layer 6, shares as texts. -/
namespace Go.Proofs.YtclekllaikcglaaGreat
open Go Go.RowKit
theorem info_str : (Tryz.prog.info? 9).map (fun i => (i.zero, i.size, i.bytes)) = some (some (.string { data := #[] }), 1, 16) := by kernel_rfl
theorem und_strs : Tryz.prog.underlying 25 = some (.slice 9) := by kernel_rfl
def shareB (i n : Nat) (s : List UInt8) : List UInt8 := b8 i :: b8 n :: s
def shares (n : Nat) (l : List (List UInt8)) : List (List UInt8) := l.zipIdx.map fun p => shareB (p.2 + 1) n p.1
theorem shares_length (n : Nat) (l : List (List UInt8)) : (shares n l).length = l.length := by simp [shares]
theorem shares_snoc (n : Nat) (l : List (List UInt8)) (s : List UInt8) : shares n (l ++ [s]) = shares n l ++ [shareB (l.length + 1) n s] := by
 simp [shares, List.zipIdx_append]
theorem shares_take (n : Nat) (l : List (List UInt8)) (k : Nat) (h : k < l.length) : shares n (l.take (k + 1)) = shares n (l.take k) ++ [shareB (k + 1) n l[k]] := by
 rw [List.take_succ_eq_append_getElem h, shares_snoc, List.length_take, Nat.min_eq_left (by omega)]
def lastS (secret : List UInt8) (l : List (List UInt8)) : List UInt8 := l.foldl xorL secret
theorem lastS_take (secret : List UInt8) (l : List (List UInt8)) (k : Nat) (h : k < l.length) : lastS secret (l.take (k + 1)) = xorL (lastS secret (l.take k)) l[k] := by
 rw [List.take_succ_eq_append_getElem h, lastS, List.foldl_append]; rfl
theorem lastS_length (secret : List UInt8) : ∀ (l : List (List UInt8)), (∀ s ∈ l, s.length = secret.length) → (lastS secret l).length = secret.length := by
 intro l
 have : ∀ (m : List (List UInt8)) (a : List UInt8), a.length = secret.length → (∀ s ∈ m, s.length = secret.length) → (m.foldl xorL a).length = secret.length := by
  intro m
  induction m with
  | nil => intro a h _; exact h
  | cons s m ih =>
   intro a h hm
   have hs := hm s (by simp)
   exact ih _ (by rw [xorL_length _ _ (by omega)]; exact h) (fun x hx => hm x (by simp [hx]))
 exact this l secret rfl
def splitS (secret : List UInt8) (l : List (List UInt8)) : Option (List (List UInt8)) :=
 if secret.length < 1 ∨ 64 < secret.length ∨ 16 ≤ l.length then none
 else if l.all (fun s => s.length == secret.length) then some (shares (l.length + 1) l ++ [shareB (l.length + 1) (l.length + 1) (lastS secret l)])
 else none
def SplitPost (w : World) (r : Option (List (List UInt8))) (e : Ending) (w' : World) : Prop :=
 match r with
 | none => e = .returned (.tuple #[.slice none 0 0, .int .i64 2]) ∧ Ext w w'
 | some xs => ∃ v, e = .returned (.tuple #[v, .int .i64 0]) ∧ Row w' w.heap.size 9 v (xs.map strV) ∧ Ext w w'
theorem to_str_two (x y : Int) (a b : Nat) (hx : x = a) (hy : y = b) (ha : a < 256) (hb : b < 256) (w : World) (T c : Nat) :
  (convert 27 9 (.slice (some ⟨w.heap.size, 0, none⟩) 2 c)).run Tryz.prog (w.alloc (.cells #[.int .u8 x, .int .u8 y] T)) = .ok (.string (bs [b8 a, b8 b])) (w.alloc (.cells #[.int .u8 x, .int .u8 y] T)) := by
 subst hx; subst hy
 have h := to_str_new w 2 c T [b8 a, b8 b] rfl
 have e : bcells [b8 a, b8 b] = #[.int .u8 a, .int .u8 b] := by
  simp only [bcells, List.map_cons, List.map_nil, b8_toNat a ha, b8_toNat b hb]
 rw [e] at h; exact h
theorem to_str_two_d (x y : Int) (a b : Nat) (hx : x = a) (hy : y = b) (ha : a < 256) (hb : b < 256) (w : World) (T c : Nat) :
  (convert 27 9 (.slice (some ⟨w.heap.size, 0, none⟩) 2 c)).run Tryz.prog (w.alloc (.cells #[.int .u8 x, .int .u8 y] T)).drew = .ok (.string (bs [b8 a, b8 b])) (w.alloc (.cells #[.int .u8 x, .int .u8 y] T)).drew :=
 to_str_two x y a b hx hy ha hb w.drew T c
set_option maxRecDepth 100000 in
set_option maxHeartbeats 1000000 in
theorem Split_fit (secret : List UInt8) (l : List (List UInt8)) (ad : Option Addr) (cap : Nat) (w : World) (h1 : 1 ≤ secret.length) (h2 : secret.length ≤ 64) (h3 : l.length < 16) (hv : Sl w (.slice ad l.length cap) (l.map strV)) :
  Calls Tryz.prog 29 #[.string (bs secret), .slice ad l.length cap] w (SplitPost w (splitS secret l)) := by
 have hsp : splitS secret l = if l.all (fun s => s.length == secret.length) then some (shares (l.length + 1) l ++ [shareB (l.length + 1) (l.length + 1) (lastS secret l)]) else none := by
  unfold splitS; rw [if_neg (by omega)]
 have HSP := Lib.hid hsp; clear hsp
 go_enter Tryz.func29, Tryz.ntmps29
 go_wp2
 go_loopw [4, 7, 31] (fun o s i wr => ∃ k : Nat, k ≤ l.length ∧ i = .int .i64 k ∧ s = .string (bs (lastS secret (l.take k))) ∧ (∀ x ∈ l.take k, x.length = secret.length) ∧ Row wr w.heap.size 9 o ((shares (l.length + 1) (l.take k)).map strV) ∧ Ext w wr) (fun _ _ i _ => l.length - (intOf i).toNat)
 case atStart => exact ⟨0, by omega, rfl, rfl, by simp, Row.nil _ _ _, Ext.refl _⟩
 case round =>
  obtain ⟨k, hk, rfl, rfl, hall, hrow, hx⟩ := hrel
  have hsz := hx.size
  have hll := lastS_length secret (l.take k) hall
  have HA := Lib.hid hall; clear hall
  by_cases hlt : k < l.length
  ·obtain ⟨b, off, ha, hbl, hcell⟩ := (hv.ext hx).str k hlt
   subst ha
   by_cases hlen : l[k].length = secret.length
   ·have G1 := Lib.hid (fun w => Xor_yes (lastS secret (l.take k)) l[k] w (by omega) (by omega))
    have hs64 : l[k].length ≤ 64 := by omega
    have hst := shares_take (l.length + 1) l k hlt
    have hla := lastS_take secret l k hlt
    have hall2 : ∀ x ∈ l.take (k + 1), x.length = secret.length := by
     intro x hx
     rw [List.take_succ_eq_append_getElem hlt] at hx
     rcases List.mem_append.1 hx with hx | hx
     ·exact HA.out x hx
     ·simp at hx; rw [hx]; exact hlen
    have kc := to_str_two ((k : Int) + 1) ((l.length : Int) + 1) (k + 1) (l.length + 1) (by omega) (by omega) (by omega) (by omega)
    have hlsh : ((shares (l.length + 1) (l.take k)).map strV).length = k := by simp [shares_length]; omega
    have HS := Lib.hid hst; have HLA := Lib.hid hla; have H2 := Lib.hid hall2; have HL := Lib.hid hlsh; have HLL := Lib.hid hll
    clear hst hla hall2 hlen hlsh hll
    go_wp2_with (first
     | (go_at_call 56; with_reducible refine (G1.out _).mono ?_; rintro e w1 ⟨rfl, hx1⟩)
     | (at_builtin; refine wpl_append rfl _ _ 25 rfl und_strs info_str rfl (by omega) w.heap.size (by have := hx1.size; simp; omega) _ ((shares (l.length + 1) (l.take k)).map strV) rfl (hrow.ext ((hx1.alloc _).alloc _)) ⟨w1.heap.size + 1, 0, none⟩ 1 1 [strV (shareB (k + 1) (l.length + 1) l[k])] rfl rfl (cells_one_at _ _ _ _ (by simp)) (oneCells [shareB (k + 1) (l.length + 1) l[k]] (fun _ => rfl)) (by rw [HL.out]; omega) ?_; intro v' w3 hrow3 hb3 _))
    go_roundw
    case measure => simp [intOf]; omega
    case rel => exact ⟨k + 1, by omega, by go_num, by rw [HLA.out], H2.out, by rw [HS.out, List.map_append]; exact hrow3, (hx.trans ((hx1.alloc _).alloc _)).trans_below hb3⟩
   ·have G1 := Lib.hid (fun w => Xor_no (lastS secret (l.take k)) l[k] w (by omega))
    have hfin : splitS secret l = none := by
     rw [HSP.out, if_neg]
     intro h
     exact hlen (by simpa using List.all_eq_true.1 h l[k] (List.getElem_mem hlt))
    have HF := Lib.hid hfin
    clear hfin hlen hll
    go_wp2_with (go_at_call 56; with_reducible refine (G1.out _).mono ?_; rintro e w1 ⟨rfl, hx1⟩)
    go_ret2
    rw [HF.out]
    exact ⟨rfl, hx.trans hx1⟩
  ·obtain rfl : k = l.length := by omega
   rw [List.take_length] at hrow hll
   rw [List.take_length]
   have hall := HA.out
   rw [List.take_length] at hall
   have hfin : splitS secret l = some (shares (l.length + 1) l ++ [shareB (l.length + 1) (l.length + 1) (lastS secret l)]) := by
    rw [HSP.out, if_pos]
    exact List.all_eq_true.2 (fun s hs => by simpa using hall s hs)
   have kc := to_str_two ((l.length : Int) + 1) ((l.length : Int) + 1) (l.length + 1) (l.length + 1) (by omega) (by omega) (by omega) (by omega)
   have hlsh : ((shares (l.length + 1) l).map strV).length = l.length := by simp [shares_length]
   have hl64 : (lastS secret l).length ≤ 64 := by omega
   have HF := Lib.hid hfin; have HL := Lib.hid hlsh
   clear hfin hlsh hll hall hv
   go_wp2_with (at_builtin; refine wpl_append rfl _ _ 25 rfl und_strs info_str rfl (by omega) w.heap.size (by simp; omega) _ ((shares (l.length + 1) l).map strV) rfl (hrow.ext (((Ext.refl wr).alloc _).alloc _)) ⟨wr.heap.size + 1, 0, none⟩ 1 1 [strV (shareB (l.length + 1) (l.length + 1) (lastS secret l))] rfl rfl (cells_one_at _ _ _ _ (by simp)) (oneCells [shareB (l.length + 1) (l.length + 1) (lastS secret l)] (fun _ => rfl)) (by rw [HL.out]; omega) ?_; intro v' w3 hrow3 hb3 _)
   go_ret2
   rw [HF.out]
   exact ⟨v', rfl, by rw [List.map_append]; exact hrow3, ((hx.alloc _).alloc _).trans_below hb3⟩
set_option maxRecDepth 100000 in
set_option maxHeartbeats 1000000 in
theorem RefSplit_fit (secret : List UInt8) (l : List (List UInt8)) (ad : Option Addr) (cap : Nat) (w : World) (h1 : 1 ≤ secret.length) (h2 : secret.length ≤ 64) (h3 : l.length < 16) (hv : Sl w (.slice ad l.length cap) (l.map strV)) :
  Calls Tryz.prog 97 #[.string (bs secret), .slice ad l.length cap] w (SplitPost w (splitS secret l)) := by
 have hsp : splitS secret l = if l.all (fun s => s.length == secret.length) then some (shares (l.length + 1) l ++ [shareB (l.length + 1) (l.length + 1) (lastS secret l)]) else none := by
  unfold splitS; rw [if_neg (by omega)]
 have HSP := Lib.hid hsp; clear hsp
 go_enter Tryz.func97, Tryz.ntmps97
 go_wp2
 go_loopw [6, 8, 9] (fun s o i wr => ∃ k : Nat, k ≤ l.length ∧ i = .int .i64 k ∧ s = .string (bs (lastS secret (l.take k))) ∧ (∀ x ∈ l.take k, x.length = secret.length) ∧ Row wr w.heap.size 9 o ((shares (l.length + 1) (l.take k)).map strV) ∧ Ext w wr) (fun _ _ i _ => l.length - (intOf i).toNat)
 case atStart => exact ⟨0, by omega, rfl, rfl, by simp, Row.nil _ _ _, Ext.refl _⟩
 case round =>
  obtain ⟨k, hk, rfl, rfl, hall, hrow, hx⟩ := hrel
  have hsz := hx.size
  have hll := lastS_length secret (l.take k) hall
  have HA := Lib.hid hall; clear hall
  by_cases hlt : k < l.length
  ·obtain ⟨b, off, ha, hbl, hcell⟩ := (hv.ext hx).str k hlt
   subst ha
   by_cases hlen : l[k].length = secret.length
   ·have G1 := Lib.hid (fun w => RefXor_any (lastS secret (l.take k)) l[k] w (by omega) (by omega))
    have hs64 : l[k].length ≤ 64 := by omega
    have hst := shares_take (l.length + 1) l k hlt
    have hla := lastS_take secret l k hlt
    have hall2 : ∀ x ∈ l.take (k + 1), x.length = secret.length := by
     intro x hx
     rw [List.take_succ_eq_append_getElem hlt] at hx
     rcases List.mem_append.1 hx with hx | hx
     ·exact HA.out x hx
     ·simp at hx; rw [hx]; exact hlen
    have hne : ((l[k].length : Int) != (secret.length : Int)) = false := by simp [hlen]
    have kc := to_str_two ((k : Int) + 1) ((l.length : Int) + 1) (k + 1) (l.length + 1) (by omega) (by omega) (by omega) (by omega)
    have hlsh : ((shares (l.length + 1) (l.take k)).map strV).length = k := by simp [shares_length]; omega
    have HS := Lib.hid hst; have HLA := Lib.hid hla; have H2 := Lib.hid hall2; have HL := Lib.hid hlsh; have HLL := Lib.hid hll
    clear hst hla hall2 hlen hlsh hll
    go_wp2_with (go_at_call 101; with_reducible refine (G1.out _).mono ?_; rintro e w1 ⟨rfl, hx1⟩)
    have hcq : ∀ wq, Ext w1 wq → wq.cell? ⟨b, off + k, none⟩ = some (.string (bs l[k])) := fun wq hq => (hx1.trans hq).cell_of hcell
    have hsz1 := hx1.size
    have s5 : ¬ 9223372036854775807 < 2 + l[k].length := by omega
    have kcd := to_str_two_d ((k : Int) + 1) ((l.length : Int) + 1) (k + 1) (l.length + 1) (by omega) (by omega) (by omega) (by omega)
    have s1 : IntKind.i64.wrap ((k : Int) + 1) = (k : Int) + 1 := by rw [IntKind.wrap_i64]; omega
    have s2 : IntKind.u8.wrap ((k : Int) + 1) = (k : Int) + 1 := by rw [IntKind.wrap_u8]; omega
    have s3 : IntKind.u8.wrap ((l.length : Int) + 1) = (l.length : Int) + 1 := by rw [IntKind.wrap_u8]; omega
    refine Loud.wp_region_loud (fun i => decide (i=6∨i=7∨i=13)) 14 (fun w' => Ext w1 w') (by kernel_rfl) (by kernel_rfl) ((Ext.refl w1).drew) ?_
    simp only [List.take_succ_cons, List.take_zero]
    iterate 6 (refine Loud.lex_qe rfl rfl ?_; apply Exists.intro; refine ⟨fun wq hq => ?_, Loud.norm fun K hK => ?_⟩; (go_simp; try rfl); go_simp; refine hK _ ?_; clear hK K)
    refine Loud.lex_l rfl rfl (fun K hK => ?_); go_simp; refine hK _ _ (by show Ext _ _; repeat (first | exact Ext.refl _ | assumption | (with_reducible refine Ext.drew ?_) | (with_reducible refine Ext.drewN ?_ _) | (with_reducible refine Ext.alloc ?_ _) | (refine Ext.trans ?_ (by assumption)))) ?_; clear hK K
    refine Loud.lex_l rfl rfl (fun K hK => ?_); go_simp; refine hK _ _ (by show Ext _ _; repeat (first | exact Ext.refl _ | assumption | (with_reducible refine Ext.drew ?_) | (with_reducible refine Ext.drewN ?_ _) | (with_reducible refine Ext.alloc ?_ _) | (refine Ext.trans ?_ (by assumption)))) ?_; clear hK K
    iterate 5 (refine Loud.lex_qe rfl rfl ?_; apply Exists.intro; refine ⟨fun wq hq => ?_, Loud.norm fun K hK => ?_⟩; (go_simp; try rfl); go_simp; refine hK _ ?_; clear hK K)
    refine Loud.lex_l rfl rfl (fun K hK => ?_); go_simp; refine hK _ _ (by show Ext _ _; repeat (first | exact Ext.refl _ | assumption | (with_reducible refine Ext.drew ?_) | (with_reducible refine Ext.drewN ?_ _) | (with_reducible refine Ext.alloc ?_ _) | (refine Ext.trans ?_ (by assumption)))) ?_; clear hK K
    refine Loud.lex_nil ?_
    simp only [List.drop_succ_cons, List.drop_zero]
    go_wp2_with (at_builtin; refine wpl_append rfl _ _ 25 rfl und_strs info_str rfl (by omega) w.heap.size (by simp; omega) _ ((shares (l.length + 1) (l.take k)).map strV) rfl (hrow.ext ((hx1.alloc _).alloc _).drew) ⟨w1.heap.size + 1, 0, none⟩ 1 1 [strV (shareB (k + 1) (l.length + 1) l[k])] rfl rfl (cells_one_at _ _ _ _ (by simp)) (oneCells [shareB (k + 1) (l.length + 1) l[k]] (fun _ => rfl)) (by rw [HL.out]; omega) ?_; intro v' w3 hrow3 hb3 _)
    go_roundw
    case measure => simp [intOf]; omega
    case rel => exact ⟨k + 1, by omega, by go_num, by rw [HLA.out], H2.out, by rw [HS.out, List.map_append]; exact hrow3, (hx.trans ((hx1.alloc _).alloc _).drew).trans_below hb3⟩
   ·have hne : ((l[k].length : Int) != (secret.length : Int)) = true := by simp; omega
    have hfin : splitS secret l = none := by
     rw [HSP.out, if_neg]
     intro h
     exact hlen (by simpa using List.all_eq_true.1 h l[k] (List.getElem_mem hlt))
    have HF := Lib.hid hfin
    clear hfin hlen hll
    go_wp2
    go_ret2
    rw [HF.out]
    exact ⟨rfl, hx⟩
  ·obtain rfl : k = l.length := by omega
   rw [List.take_length] at hrow hll
   rw [List.take_length]
   have hall := HA.out
   rw [List.take_length] at hall
   have hfin : splitS secret l = some (shares (l.length + 1) l ++ [shareB (l.length + 1) (l.length + 1) (lastS secret l)]) := by
    rw [HSP.out, if_pos]
    exact List.all_eq_true.2 (fun s hs => by simpa using hall s hs)
   have kc := to_str_two ((l.length : Int) + 1) ((l.length : Int) + 1) (l.length + 1) (l.length + 1) (by omega) (by omega) (by omega) (by omega)
   have hlsh : ((shares (l.length + 1) l).map strV).length = l.length := by simp [shares_length]
   have hl64 : (lastS secret l).length ≤ 64 := by omega
   have HF := Lib.hid hfin; have HL := Lib.hid hlsh
   clear hfin hlsh hll hall hv
   go_wp2_with (at_builtin; refine wpl_append rfl _ _ 25 rfl und_strs info_str rfl (by omega) w.heap.size (by simp; omega) _ ((shares (l.length + 1) l).map strV) rfl (hrow.ext (((Ext.refl wr).alloc _).alloc _)) ⟨wr.heap.size + 1, 0, none⟩ 1 1 [strV (shareB (l.length + 1) (l.length + 1) (lastS secret l))] rfl rfl (cells_one_at _ _ _ _ (by simp)) (oneCells [shareB (l.length + 1) (l.length + 1) (lastS secret l)] (fun _ => rfl)) (by rw [HL.out]; omega) ?_; intro v' w3 hrow3 hb3 _)
   go_ret2
   rw [HF.out]
   exact ⟨v', rfl, by rw [List.map_append]; exact hrow3, ((hx.alloc _).alloc _).trans_below hb3⟩
end Go.Proofs.YtclekllaikcglaaGreat

/- Contracts: layer 6, shares that are read. -/
namespace Go.Proofs.YtclekllaikcglaaGreat
open Go Go.RowKit
def readS (s : List UInt8) : Option (Nat × Nat × List UInt8) :=
 match s with
 | i :: n :: t => if 1 ≤ t.length ∧ t.length ≤ 64 ∧ 1 ≤ n.toNat ∧ n.toNat ≤ 16 ∧ 1 ≤ i.toNat ∧ i.toNat ≤ n.toNat then some (i.toNat, n.toNat, t) else none
 | _ => none
def readV (s : List UInt8) : Value := match readS s with
 | some (i, n, t) => .tuple #[.int .i64 i, .int .i64 n, .string (bs t), .int .i64 0]
 | none => .tuple #[.int .i64 0, .int .i64 0, .string { data := #[] }, .int .i64 7]
theorem readS_short (s : List UInt8) (h : s.length < 3 ∨ 66 < s.length) : readS s = none := by
 unfold readS
 match s, h with
 | [], _ => rfl
 | [_], _ => rfl
 | i :: n :: t, h => simp only [List.length_cons] at h; simp only []; rw [if_neg]; omega
set_option maxRecDepth 100000 in
set_option maxHeartbeats 1000000 in
theorem Read_short (s : List UInt8) (w : World) (h : s.length < 3 ∨ 66 < s.length) (hl : s.length ≤ 1099511627776) :
  Calls Tryz.prog 31 #[.string (bs s)] w fun e w' => e = .returned (readV s) ∧ Ext w w' := by
 unfold readV; rw [readS_short s h]
 by_cases h1 : s.length < 3
 ·clear h
  go_enter Tryz.func31, Tryz.ntmps31
  go_wp2
  go_returns
  exact ⟨rfl, Ext.refl _⟩
 ·have h1' : 3 ≤ s.length := by omega
  have h2 : 66 < s.length := by omega
  clear h h1
  go_enter Tryz.func31, Tryz.ntmps31
  go_wp2
  go_returns
  exact ⟨rfl, Ext.refl _⟩
set_option maxRecDepth 100000 in
set_option maxHeartbeats 1000000 in
theorem Read_long (i n : UInt8) (t : List UInt8) (w : World) (h1 : 1 ≤ t.length) (h2 : t.length ≤ 64) :
  Calls Tryz.prog 31 #[.string (bs (i :: n :: t))] w fun e w' => e = .returned (readV (i :: n :: t)) ∧ Ext w w' := by
 have h3 : (i :: n :: t).length = t.length + 2 := rfl
 have hr : readS (i :: n :: t) = if 1 ≤ t.length ∧ t.length ≤ 64 ∧ 1 ≤ n.toNat ∧ n.toNat ≤ 16 ∧ 1 ≤ i.toNat ∧ i.toNat ≤ n.toNat then some (i.toNat, n.toNat, t) else none := rfl
 have HR := Lib.hid hr; clear hr
 have hi := i.toNat_lt
 have hn := n.toNat_lt
 by_cases a1 : n.toNat < 1
 ·go_enter Tryz.func31, Tryz.ntmps31
  go_wp2
  go_quiet (fail)
  go_wp2
  go_returns
  exact ⟨by unfold readV; rw [HR.out, if_neg (by omega)], (by repeat (first | exact Ext.refl _ | assumption | (with_reducible refine Ext.drew ?_) | (with_reducible refine Ext.drewN ?_ _) | (with_reducible refine Ext.alloc ?_ _) | (refine Ext.trans ?_ (by assumption))))⟩
 by_cases a2 : 16 < n.toNat
 ·go_enter Tryz.func31, Tryz.ntmps31
  go_wp2
  go_quiet (fail)
  go_wp2
  go_returns
  exact ⟨by unfold readV; rw [HR.out, if_neg (by omega)], (by repeat (first | exact Ext.refl _ | assumption | (with_reducible refine Ext.drew ?_) | (with_reducible refine Ext.drewN ?_ _) | (with_reducible refine Ext.alloc ?_ _) | (refine Ext.trans ?_ (by assumption))))⟩
 by_cases a3 : i.toNat < 1
 ·go_enter Tryz.func31, Tryz.ntmps31
  go_wp2
  go_quiet (fail)
  go_wp2
  go_returns
  exact ⟨by unfold readV; rw [HR.out, if_neg (by omega)], (by repeat (first | exact Ext.refl _ | assumption | (with_reducible refine Ext.drew ?_) | (with_reducible refine Ext.drewN ?_ _) | (with_reducible refine Ext.alloc ?_ _) | (refine Ext.trans ?_ (by assumption))))⟩
 by_cases a4 : n.toNat < i.toNat
 ·go_enter Tryz.func31, Tryz.ntmps31
  go_wp2
  go_quiet (fail)
  go_wp2
  go_returns
  exact ⟨by unfold readV; rw [HR.out, if_neg (by omega)], (by repeat (first | exact Ext.refl _ | assumption | (with_reducible refine Ext.drew ?_) | (with_reducible refine Ext.drewN ?_ _) | (with_reducible refine Ext.alloc ?_ _) | (refine Ext.trans ?_ (by assumption))))⟩
 go_enter Tryz.func31, Tryz.ntmps31
 go_wp2
 go_quiet (fail)
 go_wp2
 go_quiet (fail)
 go_wp2
 go_returns
 have he : (bs (i :: n :: t)).extract 2 (t.length + 2) = bs t := by rw [bs_extract]; simp
 rw [he]
 exact ⟨by unfold readV; rw [HR.out, if_pos (by omega)], (by repeat (first | exact Ext.refl _ | assumption | (with_reducible refine Ext.drew ?_) | (with_reducible refine Ext.drewN ?_ _) | (with_reducible refine Ext.alloc ?_ _) | (refine Ext.trans ?_ (by assumption))))⟩
theorem Read_any (s : List UInt8) (w : World) (hl : s.length ≤ 1099511627776) :
  Calls Tryz.prog 31 #[.string (bs s)] w fun e w' => e = .returned (readV s) ∧ Ext w w' := by
 by_cases h : s.length < 3 ∨ 66 < s.length
 ·exact Read_short s w h hl
 ·match s, h with
  | [], h => simp at h
  | [_], h => simp at h
  | i :: n :: t, h => simp only [List.length_cons] at h; exact Read_long i n t w (by omega) (by omega)
def shareV (r : Option (Nat × Nat × List UInt8)) : Value := match r with
 | some (i, n, t) => .agg #[.int .i64 i, .int .i64 n, .string (bs t)]
 | none => .agg #[.int .i64 0, .int .i64 0, .string { data := #[] }]
def errForm (r : Option (Nat × Nat × List UInt8)) : Value := match r with
 | some _ => .int .i64 0
 | none => .int .i64 7
def refReadV (s : List UInt8) : Value := .tuple #[shareV (readS s), errForm (readS s)]
set_option maxRecDepth 100000 in
set_option maxHeartbeats 1000000 in
theorem RefRead_short (s : List UInt8) (w : World) (h : s.length < 3 ∨ 66 < s.length) (hl : s.length ≤ 1099511627776) :
  Calls Tryz.prog 100 #[.string (bs s)] w fun e w' => e = .returned (refReadV s) ∧ Ext w w' := by
 unfold refReadV; rw [readS_short s h]
 by_cases h1 : s.length < 3
 ·clear h
  go_enter Tryz.func100, Tryz.ntmps100
  go_wp2
  go_returns
  exact ⟨rfl, (by repeat (first | exact Ext.refl _ | assumption | (with_reducible refine Ext.drew ?_) | (with_reducible refine Ext.drewN ?_ _) | (with_reducible refine Ext.alloc ?_ _) | (refine Ext.trans ?_ (by assumption))))⟩
 ·have h1' : 3 ≤ s.length := by omega
  have h2 : 66 < s.length := by omega
  clear h h1
  go_enter Tryz.func100, Tryz.ntmps100
  go_wp2
  go_returns
  exact ⟨rfl, (by repeat (first | exact Ext.refl _ | assumption | (with_reducible refine Ext.drew ?_) | (with_reducible refine Ext.drewN ?_ _) | (with_reducible refine Ext.alloc ?_ _) | (refine Ext.trans ?_ (by assumption))))⟩
theorem RefRead_long (i n : UInt8) (t : List UInt8) (w : World) (h1 : 1 ≤ t.length) (h2 : t.length ≤ 64) :
  Calls Tryz.prog 100 #[.string (bs (i :: n :: t))] w fun e w' => e = .returned (refReadV (i :: n :: t)) ∧ Ext w w' := by
 have h3 : (i :: n :: t).length = t.length + 2 := rfl
 have hr : readS (i :: n :: t) = if 1 ≤ t.length ∧ t.length ≤ 64 ∧ 1 ≤ n.toNat ∧ n.toNat ≤ 16 ∧ 1 ≤ i.toNat ∧ i.toNat ≤ n.toNat then some (i.toNat, n.toNat, t) else none := rfl
 have HR := Lib.hid hr; clear hr
 have hi := i.toNat_lt
 have hn := n.toNat_lt
 have he : (bs (i :: n :: t)).extract 2 (t.length + 2) = bs t := by rw [bs_extract]; simp
 have HE := Lib.hid he; clear he
 go_enter Tryz.func100, Tryz.ntmps100
 go_wp2
 have g0 : (0 : Int) < (t.length : Int) + 2 := by omega
 have g1 : (1 : Int) < (t.length : Int) + 2 := by omega
 have g2 : (2 : Int) ≤ (t.length : Int) + 2 := by omega
 refine Loud.wp_region_loud (fun i => decide (i=9∨i=10)) 11 (fun _ => True) (by kernel_rfl) (by kernel_rfl) trivial ?_
 simp only [List.take_succ_cons, List.take_zero]
 iterate 9 (refine Loud.lex_qe rfl rfl ?_; apply Exists.intro; refine ⟨fun wq hq => ?_, Loud.norm fun K hK => ?_⟩; (go_simp; try rfl); go_simp; refine hK _ ?_; clear hK K)
 refine Loud.lex_l rfl rfl (fun K hK => ?_); go_simp; refine hK _ _ trivial ?_; clear hK K
 refine Loud.lex_l rfl rfl (fun K hK => ?_); go_simp; refine hK _ _ trivial ?_; clear hK K
 refine Loud.lex_nil ?_
 simp only [List.drop_succ_cons, List.drop_zero]
 go_wp2
 all_goals go_returns
 all_goals first
  | exact ⟨by unfold refReadV shareV errForm; rw [HR.out, if_neg (by omega)], (by repeat (first | exact Ext.refl _ | assumption | (with_reducible refine Ext.drew ?_) | (with_reducible refine Ext.drewN ?_ _) | (with_reducible refine Ext.alloc ?_ _) | (refine Ext.trans ?_ (by assumption))))⟩
  | (rw [HE.out]; exact ⟨by unfold refReadV shareV errForm; rw [HR.out, if_pos (by omega)], (by repeat (first | exact Ext.refl _ | assumption | (with_reducible refine Ext.drew ?_) | (with_reducible refine Ext.drewN ?_ _) | (with_reducible refine Ext.alloc ?_ _) | (refine Ext.trans ?_ (by assumption))))⟩)
theorem RefRead_any (s : List UInt8) (w : World) (hl : s.length ≤ 1099511627776) :
  Calls Tryz.prog 100 #[.string (bs s)] w fun e w' => e = .returned (refReadV s) ∧ Ext w w' := by
 by_cases h : s.length < 3 ∨ 66 < s.length
 ·exact RefRead_short s w h hl
 ·match s, h with
  | [], h => simp at h
  | [_], h => simp at h
  | i :: n :: t, h => simp only [List.length_cons] at h; exact RefRead_long i n t w (by omega) (by omega)
end Go.Proofs.YtclekllaikcglaaGreat
