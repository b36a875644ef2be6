import Derived.Test.YtclekllaikcglaaGreatRefRingB
import Derived.Test.YtclekllaikcglaaGreatLaw13a

/- Contracts: layer 13, the document's ring: Bytes. -/
namespace Go.Proofs.YtclekllaikcglaaGreat
open Go Go.RowKit
set_option maxRecDepth 100000 in
set_option maxHeartbeats 4000000 in
theorem ref_ring_Bytes (B d : Nat) (E : Eps) (n : Nat) (w : World) (h : DocAt w B d E) (hI : RI E n) (hn : n < 4294967296) :
  Calls Tryz.prog 106 #[.pointer (some ⟨d, 0, none⟩)] w fun e w' => e = .returned (.string (bs (bytesE E))) ∧ Ext w w' := by
 have HB : Hid (bytesE E = [b8 E.length] ++ E.flatMap entB) := Lib.hid rfl
 generalize bytesE E = BY at *
 obtain ⟨g, cap, hd, _, _, _, _, _, hc⟩ := h.look hI.ne
 have HLE := Lib.hid (fun (k : Nat) (hk : k < E.length) => hI.le E[k] (List.getElem_mem hk))
 have h64 := hI.len
 have hne : 0 < E.length := List.length_pos_iff.2 hI.ne
 have HC := Lib.hid hc
 have HD := Lib.hid hd
 have HKEY := Lib.hid hI.key
 obtain ⟨N, hN⟩ : ∃ N, E.length = N := ⟨_, rfl⟩
 have HN := Lib.hid hN
 rw [hN] at h64 hne HB HD
 have hw8 : IntKind.u8.wrap (N : Int) = ((b8 N).toNat : Int) := by rw [b8_toNat _ (by omega), IntKind.wrap_u8]; omega
 have ks := one_str (b8 N)
 generalize b8 N = bN at *
 clear h hd hc hI hN
 have c0 := cell_blk (i := 0) HD.out rfl
 go_enter Tryz.func106, Tryz.ntmps106
 go_wp2_with fail
 have HX2 : Hid (Ext w (w.alloc (.cells #[.int .u8 (bN.toNat : Int)] 5))) := Lib.hid ((Ext.refl w).alloc _)
 clear ks hw8 c0
 go_loopg [3, 4] N (fun q s3 s4 wr => ∃ (k : Nat) (t : List UInt8), s3 = .string (bs t) ∧ s4 = .int .i64 (k : Int) ∧ k + q = N ∧ t.length ≤ 1 + 36 * k ∧ Hid (t = [bN] ++ (E.take k).flatMap entB) ∧ Ext w wr)
 case atStart => exact ⟨0, [bN], rfl, rfl, by omega, by simp, Lib.hid (by simp), HX2.out⟩
 case round =>
  obtain ⟨k, t, rfl, rfl, hkq, htl, HT, hx⟩ := hrel
  clear HX2
  have c0 := cell_blk (i := 0) (hx.keep HD.out) rfl
  cases gk with
  | zero =>
   obtain rfl : k = N := by omega
   have HR : Hid (t = BY) := Lib.hid (by rw [HT.out, HB.out, List.take_of_length_le (by have := HN.out; omega)])
   have hlt : decide ((k : Int) < (k : Int)) = false := by simp
   clear HT
   go_wp2
   go_returns
   rw [HR.out]
   exact ⟨rfl, hx⟩
  | succ q =>
   have hkN : k < N := by omega
   have hkE : k < E.length := by have := HN.out; omega
   have c1 := hx.cell_of (HC.out k hkE).1
   have c2 := hx.cell_of (HC.out k hkE).2
   have hle := HLE.out k hkE
   have HS : Hid ((E.take (k + 1)).flatMap entB = (E.take k).flatMap entB ++ (putB 4 E[k].1 ++ E[k].2)) := Lib.hid (flat_take_succ E k hkE)
   obtain ⟨e, he⟩ : ∃ e, E[k].1 = e := ⟨_, rfl⟩
   obtain ⟨key, hkey⟩ : ∃ e, E[k].2 = e := ⟨_, rfl⟩
   rw [he, hkey] at HS
   rw [he] at c1 hle
   rw [hkey] at c2
   have GP : Hid (∀ W, Calls Tryz.prog 108 #[.int .u64 (e : Int), .int .i64 4] W fun e' w' => e' = .returned (.string (bs (putB 4 e))) ∧ Ext W w') := Lib.hid (fun W => RefPut_any e 4 W (by omega) (by omega) (by unfold U64; omega))
   have hkNi : (k : Int) < (N : Int) := by omega
   have hpl : (putB 4 e).length = 4 := by simp
   have hkl : key.length = 32 := by rw [← hkey]; exact HKEY.out _ (List.getElem_mem hkE)
   have htb : ¬ 9223372036854775807 < t.length + 4 := by omega
   have htb2 : ¬ 9223372036854775807 < t.length + 4 + 32 := by omega
   have hw64 : IntKind.u64.wrap (e : Int) = (e : Int) := by rw [IntKind.wrap_u64]; omega
   generalize putB 4 e = pe at *
   clear he hkey hle hkE
   go_upto_region 5 with fail
   refine Loud.wp_region_weave 21 wr (Loud.sps [.val (.string (bs t)), .val (.pointer (some ⟨d, 0, none⟩)), .val (.pointer (some ⟨d, 0, none⟩)), .val (.pointer (some ⟨d, 0, none⟩)), .val (.slice (some ⟨g, 0, none⟩) N cap), .val (.int .i64 (k : Int)), .val (.pointer (some ⟨g, k * 2, none⟩)), .val (.pointer (some ⟨g, k * 2, none⟩)), .val (.int .u32 (e : Int)), .val (.int .u64 (e : Int)), .val (.string (bs pe)), .val (.string (bs (t ++ pe))), .val (.pointer (some ⟨d, 0, none⟩)), .val (.pointer (some ⟨d, 0, none⟩)), .val (.pointer (some ⟨d, 0, none⟩)), .val (.slice (some ⟨g, 0, none⟩) N cap), .val (.int .i64 (k : Int)), .val (.pointer (some ⟨g, k * 2, none⟩)), .val (.pointer (some ⟨g, k * 2 + 1, none⟩)), .val (.string (bs key)), .val (.string (bs (t ++ (pe ++ key))))]) (by kernel_rfl) (by kernel_rfl) (by show Ext _ _; repeat (first | exact Ext.refl _ | assumption | (with_reducible refine Ext.drew ?_) | (with_reducible refine Ext.drewN ?_ _) | (with_reducible refine Ext.alloc ?_ _) | (refine Ext.trans ?_ (by assumption)))) (Loud.sps_st _) ?wAx1 ?whAx1 ?whSx1 ?whFx1
   case whAx1 => intro u K hK; simp only [List.take_succ_cons, List.take_zero, Loud.puts]; go_simp; exact hK
   case whSx1 =>
    refine ⟨?wsx1_0, ?wsx1_1, ?wsx1_2, ?wsx1_3, ?wsx1_4, ?wsx1_5, ?wsx1_6, ?wsx1_7, ?wsx1_8, ?wsx1_9, ?wsx1_10, ?wsx1_11, ?wsx1_12, ?wsx1_13, ?wsx1_14, ?wsx1_15, ?wsx1_16, ?wsx1_17, ?wsx1_18, ?wsx1_19, ?wsx1_20, trivial⟩
    all_goals (intro u β wq hq h; repeat (obtain ⟨h1, h⟩ := h; first | (replace h1 := h1 rfl; simp only [go_sem] at h1; try (obtain ⟨h1, h1b⟩ := h1)) | (have hno := (h1 : Region.binds _ _ = true → _); clear hno h1)))
    case wsx1_4 =>
     refine Or.inl ⟨rfl, fun K hK => ?_⟩
     have hqc := hq.cell_of c0
     go_simp
     exact hK _ 0 _ (Ext.refl _) rfl
    case wsx1_8 =>
     refine Or.inl ⟨rfl, fun K hK => ?_⟩
     have hqc := hq.cell_of c1
     go_simp
     exact hK _ 0 _ (Ext.refl _) rfl
    case wsx1_10 =>
     refine Or.inl ⟨rfl, fun K hK => ?_⟩
     go_simp
     refine (GP.out _).mono ?_; rintro e w1 ⟨rfl, hx1⟩; exact ⟨_, rfl, hK _ 0 _ hx1 rfl⟩
    case wsx1_15 =>
     refine Or.inl ⟨rfl, fun K hK => ?_⟩
     have hqc := hq.cell_of c0
     go_simp
     exact hK _ 0 _ (Ext.refl _) rfl
    case wsx1_19 =>
     refine Or.inl ⟨rfl, fun K hK => ?_⟩
     have hqc := hq.cell_of c2
     go_simp
     exact hK _ 0 _ (Ext.refl _) rfl
    all_goals (first | refine Or.inl ⟨rfl, fun K hK => ?_⟩ | refine Or.inl ⟨Loud.wanted_of rfl rfl (congrArg some (by assumption)), fun K hK => ?_⟩); go_simp; exact hK _ 0 _ (Ext.refl _) rfl
   intro u β w5 hq h
   have h0 := h 0 (by omega)
   have h1 := h 1 (by omega)
   have h2 := h 2 (by omega)
   have h3 := h 3 (by omega)
   have h4 := h 4 (by omega)
   have h5 := h 5 (by omega)
   have h6 := h 6 (by omega)
   have h7 := h 7 (by omega)
   have h8 := h 8 (by omega)
   have h9 := h 9 (by omega)
   have h10 := h 10 (by omega)
   have h11 := h 11 (by omega)
   have h12 := h 12 (by omega)
   have h13 := h 13 (by omega)
   have h14 := h 14 (by omega)
   have h15 := h 15 (by omega)
   have h16 := h 16 (by omega)
   have h17 := h 17 (by omega)
   have h18 := h 18 (by omega)
   have h19 := h 19 (by omega)
   have h20 := h 20 (by omega)
   clear h
   simp only [go_sem] at h0 h1 h2 h3 h4 h5 h6 h7 h8 h9 h10 h11 h12 h13 h14 h15 h16 h17 h18 h19 h20
   simp only [List.drop_succ_cons, List.drop_zero]
   rw [h20]
   have hx5 := hx.trans hq
   clear h0 h1 h2 h3 h4 h5 h6 h7 h8 h9 h10 h11 h12 h13 h14 h15 h16 h17 h18 h19 hq c0 c1 c2 hx
   go_wp2
   go_roundg q
   case measure => omega
   case rel => exact ⟨k + 1, _, rfl, by go_num, by omega, by simp; omega, Lib.hid (by rw [HS.out, HT.out]; simp [List.append_assoc]), hx5⟩
end Go.Proofs.YtclekllaikcglaaGreat

/- Contracts: layer 13: same. -/
namespace Go.Proofs.YtclekllaikcglaaGreat
open Go Go.RowKit
end Go.Proofs.YtclekllaikcglaaGreat

/- Contracts: layer 13, the document's ring: Read. -/
namespace Go.Proofs.YtclekllaikcglaaGreat
open Go Go.RowKit
theorem own_sl {w : World} {B n size : Nat} {e : TypeId} {v : Value} {xs : List Value} (h : w.ownsRow B e size v n xs) : ∃ ad c, v = .slice ad n c := by
 rcases h.2 with ⟨hv, h0⟩ | ⟨g, cap, cur, hv, hg, _⟩
 ·exact ⟨none, 0, by rw [hv, h0]⟩
 ·exact ⟨_, cap, hv⟩
theorem does_appE {o : Oper} {a : Act} {w : World} {R : Value → World → Prop} (B : Nat) (hB : B ≤ w.heap.size) (v : Value) (n : Nat) (xs : List Value) (F : Eps) (s x : Operand)
  (ho : o.op = .call { callee := .builtin .append, args := #[s, x], argTypes := #[89, 89] }) (hs : a.eval s = v) (hown : w.ownsRow B 93 2 v n xs)
  (g off m c : Nat) (hx : a.eval x = .slice (some ⟨g, off, none⟩) m c) (hm : F.length = m) (hc : ∀ j u, (F.flatMap entC)[j]? = some u → w.cell? ⟨g, off + j, none⟩ = some u) (hlen : n + m ≤ 2000)
  (h : ∀ v' w', w'.ownsRow B 93 2 v' (n + m) (xs ++ F.flatMap entC) → w.grownBy w' v.ownBlock → (v'.ownBlock = v.ownBlock ∨ v'.ownBlock = some w.heap.size) → R v' w') : Loud.does Tryz.prog o a w R := by
 obtain ⟨i0, hi, hz0, hz1, hz2⟩ := info_parts2 info_entry
 obtain ⟨v', w', hr, h2, h3, _, h5⟩ := run_append_own_at (P := Tryz.prog) w B 89 o.type 93 i0 _ 2 24 und_entries hi hz0 hz1 hz2 rfl (by omega) v n xs hown ⟨g, off, none⟩ m c (F.flatMap entC) (by rw [flatC_length, hm]) (by
  intro j u hj
  rw [addr_add']
  exact hc j u hj) (oneCell_entC F) (by unfold maxLen; omega) (by omega) hB
 unfold Loud.does execOp
 simp only [ho, resolve, invoke, builtin, Sem.run_bind, Sem.run_pure, Result.andThen_ok, List.map_toArray, List.map_cons, List.map_nil, hs, hx, hr]
 exact h v' w' h2 h3 h5
def RdD (s : List UInt8) (w : World) (e : Ending) (w' : World) : Prop :=
 (readE s = none ∧ e = .returned (.pointer none) ∧ Ext w w') ∨
 (∃ E d, readE s = some E ∧ e = .returned (.pointer (some ⟨d, 0, none⟩)) ∧ DocAt w' w.heap.size d E ∧ Ext w w')
structure RdK (w0 : World) (s : List UInt8) (d : Nat) (E : Eps) (k : Nat) (w : World) : Prop where
 ext : Ext w0 w
 doc : DocAt w w0.heap.size d E
 good : Good E k
 says : readN s k = some E
set_option maxRecDepth 100000 in
set_option maxHeartbeats 8000000 in
theorem ref_Read (s : List UInt8) (w : World) (hs : s.length ≤ 1000000) : Calls Tryz.prog 79 #[.string (bs s)] w (RdD s w) := by
 obtain ⟨b, hb⟩ : ∃ b, s.getD 0 0 = b := ⟨_, rfl⟩
 have hbn := b.toNat_lt
 by_cases h1 : s.length = 0
 ·have HN : Hid (readE s = none) := Lib.hid (by rw [readE, if_neg (by rw [hb]; omega)])
  have h1i : ((s.length : Int) == 0) = true := by rw [h1]; rfl
  clear hb h1
  go_enter Tryz.func79, Tryz.ntmps79
  go_wp2_with fail
  go_returns
  exact .inl ⟨HN.out, rfl, Ext.refl _⟩
 have h1d : ((s.length : Int) == 0) = false := beq_eq_false_iff_ne.2 (by omega)
 have iS : ∀ W, (Instr.index 9 (.string (bs s)) (.int .i64 0)).run Tryz.prog W = .ok (.int .u8 ((s.getD 0 0).toNat : Int)) W := fun W => run_index_str s 0 (by omega) W
 rw [hb] at iS
 obtain ⟨B, hB⟩ : ∃ B, b.toNat = B := ⟨_, rfl⟩
 rw [hB] at iS hbn
 have HR : Hid (readE s = if 1 ≤ B ∧ B ≤ 64 ∧ s.length = 1 + 36 * B then readN s B else none) := Lib.hid (by rw [readE, hb, hB])
 clear hb hB
 by_cases h2 : B < 1
 ·have HN : Hid (readE s = none) := Lib.hid (by rw [HR.out, if_neg (by omega)])
  have h2i : (B : Int) < 1 := by omega
  clear h1 h2 HR
  go_enter Tryz.func79, Tryz.ntmps79
  go_wp2_with fail
  go_returns
  exact .inl ⟨HN.out, rfl, Ext.refl _⟩
 have h2d : decide ((B : Int) < 1) = false := by simp; omega
 by_cases h3 : 64 < B
 ·have HN : Hid (readE s = none) := Lib.hid (by rw [HR.out, if_neg (by omega)])
  have h3i : (64 : Int) < (B : Int) := by omega
  clear h1 h2 h3 HR
  go_enter Tryz.func79, Tryz.ntmps79
  go_wp2_with fail
  go_returns
  exact .inl ⟨HN.out, rfl, Ext.refl _⟩
 have h3d : decide ((64 : Int) < (B : Int)) = false := by simp; omega
 have hm : (1 : Int) + (B : Int) * 36 = ((1 + 36 * B : Nat) : Int) := by omega
 have hmw : IntKind.i64.wrap ((B : Int) * 36) = (B : Int) * 36 := by rw [IntKind.wrap_i64]; omega
 have hmw2 : IntKind.i64.wrap ((1 : Int) + (B : Int) * 36) = (1 : Int) + (B : Int) * 36 := by rw [IntKind.wrap_i64]; omega
 obtain ⟨M, hM⟩ : ∃ M, 1 + 36 * B = M := ⟨_, rfl⟩
 rw [hM] at hm HR
 by_cases h4 : s.length = M
 ·have hne : ((s.length : Int) != (M : Int)) = false := by simp; omega
  have HB1 : Hid (1 ≤ B ∧ B ≤ 64) := Lib.hid (by omega)
  have HR2 : Hid (readE s = readN s B) := Lib.hid (by rw [HR.out, if_pos ⟨by omega, by omega, h4⟩])
  have H4 := Lib.hid h4
  have HM := Lib.hid hM
  clear HR h1 h2 h3 h4 hM
  go_enter Tryz.func79, Tryz.ntmps79
  go_wp2_with fail
  obtain ⟨d, hd⟩ : ∃ d, w.heap.size = d := ⟨_, rfl⟩
  obtain ⟨W0, hW0⟩ : ∃ W0, w.alloc (.cells #[.slice none 0 0] 91) = W0 := ⟨_, rfl⟩
  have HX0 : Hid (RdK w s d [] 0 W0) := Lib.hid (by
   rw [← hW0]
   exact ⟨(Ext.refl w).alloc _, ⟨.slice none 0 0, by rw [← hd]; exact heap_alloc_new _ _, by omega, World.ownsRow_nil _ _ _ _⟩, ⟨rfl, by simp [AscE], by simp, by simp, by simp [lastE]⟩, rfl⟩)
  rw [hW0, hd]
  have HDS := Lib.hid hd
  clear hW0 hd iS h1d h2d h3d hmw hmw2 hne hm
  go_loopg [5, 6] B (fun q s5 s6 wr => ∃ (k : Nat) (E : Eps), s5 = .int .u32 (lastE E : Int) ∧ s6 = .int .i64 (k : Int) ∧ k + q = B ∧ Hid (RdK w s d E k wr))
  case atStart => exact ⟨0, [], rfl, rfl, by omega, HX0⟩
  case round =>
   obtain ⟨k, E, rfl, rfl, hkq, HX⟩ := hrel
   clear HX0
   cases gk with
   | zero =>
    obtain rfl : k = B := by omega
    have hlt : decide ((k : Int) < (k : Int)) = false := by simp
    go_wp2_with fail
    go_returns
    exact .inr ⟨E, d, by rw [HR2.out]; exact HX.out.says, rfl, HX.out.doc, HX.out.ext⟩
   | succ q =>
    obtain ⟨f, hf⟩ : ∃ f, 1 + 36 * k = f := ⟨_, rfl⟩
    have hsl : s.length = 1 + 36 * B := by rw [H4.out, HM.out]
    have hs36 : f + 36 ≤ s.length := by omega
    have hkB : (k : Int) < (B : Int) := by omega
    have hm : (1 : Int) + (k : Int) * 36 = (f : Int) := by omega
    have hB64 := HB1.out
    have hmw : IntKind.i64.wrap ((k : Int) * 36) = (k : Int) * 36 := by rw [IntKind.wrap_i64]; omega
    have hmw2 : IntKind.i64.wrap ((1 : Int) + (k : Int) * 36) = (1 : Int) + (k : Int) * 36 := by rw [IntKind.wrap_i64]; omega
    have e4 : (seg s f 4).length = 4 := seg_length s f 4 (by omega)
    have g32 : Get32 s (f : Int) = (getB (seg s f 4), true) := by rw [Get32, if_pos (by omega)]; simp
    have hent : entryAt s k = (getB (seg s f 4), seg s (f + 4) 32) := by rw [entryAt, hf, show 5 + 36 * k = f + 4 by omega]
    have HEN := Lib.hid hent
    have c4 := fun w => RefGet4_any s (f : Int) w (by omega)
    rw [g32] at c4
    have heb := getB_lt (seg s f 4)
    rw [e4] at heb
    clear hent e4 g32
    obtain ⟨e, he⟩ : ∃ e, getB (seg s f 4) = e := ⟨_, rfl⟩
    rw [he] at c4 heb HEN
    have C4 := Lib.hid c4
    obtain ⟨l, hl⟩ : ∃ l, lastE E = l := ⟨_, rfl⟩
    have HLE := Lib.hid hl
    have HF := Lib.hid hf
    rw [hl]
    have hwu : IntKind.u32.wrap (e : Int) = (e : Int) := by rw [IntKind.wrap_u32]; omega
    have HKQ := Lib.hid hkq
    clear c4 he hl hf hsl
    by_cases hel : e ≤ l
    ·have hi : (e : Int) ≤ (l : Int) := by omega
     have HN : Hid (readE s = none) := Lib.hid (by
      rw [HR2.out, show B = (k + 1) + q by have := HKQ.out; omega]
      refine readN_none s (k + 1) ?_ q
      rw [readN, HX.out.says]
      simp only [Option.bind_some]
      rw [HEN.out, if_pos (by rw [HLE.out]; exact hel)])
     clear heb hkq
     go_wp2_with (go_at_call 99; with_reducible refine (C4.out _).mono ?_; rintro e w' ⟨rfl, rfl⟩)
     go_returns
     exact .inl ⟨HN.out, rfl, HX.out.ext⟩
    ·have hi3 : decide ((e : Int) ≤ (l : Int)) = false := by simp; omega
     have hi2 : decide (e ≤ l) = false := by simp; omega
     obtain ⟨v, hv, hBd, hown⟩ := HX.out.doc
     obtain ⟨ad, cp, rfl⟩ := own_sl hown
     have hsome : readN s (k + 1) = some (E ++ [(e, seg s (f + 4) 32)]) := by
      rw [readN, HX.out.says]
      simp only [Option.bind_some]
      rw [HEN.out, if_neg (by rw [HLE.out]; exact hel)]
     have HSO := Lib.hid hsome
     have HGD : Hid (Good (E ++ [(e, seg s (f + 4) 32)]) (k + 1)) := Lib.hid (readN_good s (k + 1) _ (by have := HF.out; omega) hsome)
     have HV := Lib.hid hv
     have HOW := Lib.hid hown
     have hEl := HX.out.good.len
     obtain ⟨f4, hf4⟩ : ∃ x, f + 4 = x := ⟨_, rfl⟩
     obtain ⟨f36, hf36⟩ : ∃ x, f + 36 = x := ⟨_, rfl⟩
     have i4 : (f : Int) + 4 = (f4 : Int) := by omega
     have i36 : (f4 : Int) + 32 = (f36 : Int) := by omega
     have hx : (bs s).extract f4 f36 = bs (seg s (f + 4) 32) := by rw [bs_extract, ← hf4, ← hf36, show f + 36 - (f + 4) = 32 by omega]; rfl
     have j1 : (f4 : Int) ≤ (f36 : Int) := by omega
     have j2 : (f36 : Int) ≤ (s.length : Int) := by omega
     have k1 : f36 ≤ 1000000 := by omega
     have k2 : f4 ≤ 1000000 := by omega
     have wa : IntKind.i64.wrap (f4 : Int) = (f4 : Int) := by rw [IntKind.wrap_i64]; omega
     have wb : IntKind.i64.wrap (f36 : Int) = (f36 : Int) := by rw [IntKind.wrap_i64]; omega
     generalize seg s (f + 4) 32 = y at *
     clear hsome hv hown hf4 hf36 hel heb
     go_upto_region 16 with (go_at_call 99; with_reducible refine (C4.out _).mono ?_; rintro e w' ⟨rfl, rfl⟩)
     have DC : Hid (wr.drew.cell? ⟨d, 0, none⟩ = some (.slice ad E.length cp)) := Lib.hid (cell_blk (i := 0) (show wr.drew.heap[d]? = _ from HV.out) rfl)
     obtain ⟨w2, hw2⟩ : ∃ x, (wr.alloc (.cells #[.int .u32 (e : Int), .string (bs y)] 93)).drew = x := ⟨_, rfl⟩
     have x2 : Ext wr w2 := by rw [← hw2]; exact ((Ext.refl wr).alloc _).drew
     have z2 : w2.heap[wr.heap.size]? = some (.cells #[.int .u32 (e : Int), .string (bs y)] 93) := by rw [← hw2]; exact heap_alloc_new wr _
     have X2 := Lib.hid x2
     have Z2 := Lib.hid z2
     have HC2 : Hid (∀ j u, ([(e, y)].flatMap entC)[j]? = some u → w2.cell? ⟨wr.heap.size, 0 + j, none⟩ = some u) := Lib.hid (by
      intro j u hj
      rw [Nat.zero_add]
      refine cell_blk Z2.out ?_
      match j, hj with
      | 0, hj => simpa [entC] using hj
      | 1, hj => simpa [entC] using hj
      | j + 2, hj => simp [entC] at hj)
     have HW2 := Lib.hid hw2
     have HO2 := Lib.hid (ownsRow_ext HOW.out x2)
     have hd2 := x2.keep HV.out
     have HD2 := Lib.hid hd2
     have HB2 : Hid (w.heap.size ≤ w2.heap.size) := Lib.hid (by have h1 := HX.out.ext.size; have h2 := x2.size; omega)
     have HE1 : Hid (E.length + 1 ≤ 2000) := Lib.hid (by omega)
     clear hw2 x2 z2 hd2 hEl
     refine Loud.wp_region_loud (fun i => decide (i = 14 ∨ i = 15)) 18 (fun w' => w'.cell? ⟨d, 0, none⟩ = some (.slice ad E.length cp)) (by kernel_rfl) (by kernel_rfl) DC.out ?_
     simp only [List.take_succ_cons, List.take_zero]
     iterate 14 (refine Loud.lex_qe rfl rfl ?_; apply Exists.intro; refine ⟨fun wq hq => ?_, Loud.norm fun K hK => ?_⟩; (go_simp; try rfl); go_simp; refine hK _ ?_; clear hK K)
     refine Loud.lex_l rfl rfl (fun K hK => ?_); go_simp; rw [HW2.out]; refine hK _ _ (cell_blk (i := 0) HD2.out rfl) ?_; clear hK K
     refine Loud.lex_l rfl rfl (fun K hK => ?_); refine does_appE w.heap.size HB2.out (.slice ad E.length cp) E.length (E.flatMap entC) [(e, y)] (Operand.tmp 56) (Operand.tmp 66) rfl rfl HO2.out wr.heap.size 0 1 1 rfl rfl HC2.out HE1.out ?_; intro v3 w3 ho3 hg3 hb3
     have hnd : some d ≠ (Value.slice ad E.length cp).ownBlock := by
      rcases HOW.out.2 with ⟨hv, _⟩ | ⟨g, _, cur, hv, _, hh, _⟩
      ·rw [hv]; simp [Value.ownBlock]
      ·rw [hv]
       simp only [Value.ownBlock, ne_eq, Option.some.injEq]
       rintro rfl
       have := HV.out
       rw [hh] at this; cases this
     have hd3 := (hg3.block d (blk_lt HD2.out) hnd).trans HD2.out
     obtain ⟨g3, cap3, hv3, _⟩ := own_look' ho3 (by omega)
     subst hv3
     have HD3 := Lib.hid hd3
     have HO3 := Lib.hid ho3
     have HX3 : Hid (Ext w w3) := Lib.hid (Below.grown (HX.out.ext.trans X2.out) hg3 HB2.out (fun k h => (HO2.out.lt k h).1))
     clear ho3 hg3 hb3 hnd hd3
     refine hK _ _ (cell_blk (i := 0) HD3.out rfl) ?_
     clear hK K
     iterate 2 (refine Loud.lex_qe rfl rfl ?_; apply Exists.intro; refine ⟨fun wq hq => ?_, Loud.norm fun K hK => ?_⟩; (go_simp; try rfl); go_simp; refine hK _ ?_; clear hK K)
     refine Loud.lex_nil ?_
     simp only [List.drop_succ_cons, List.drop_zero]
     have c3 := cell_blk (i := 0) HD3.out rfl
     have f3 : w3.frozen? ⟨d, 0, none⟩ = false := frozen_blk HD3.out
     go_wp2_with fail
     go_roundg q
     case measure => omega
     case rel =>
      refine ⟨k + 1, E ++ [(e, y)], by rw [lastE_snoc], by go_num, by have := HKQ.out; omega, Lib.hid ⟨?_, ?_, HGD.out, HSO.out⟩⟩
      ·exact HX3.out.setCell (by have := HDS.out; show w.heap.size ≤ d; omega) _
      ·have hrow := own_set (u := .slice (some ⟨g3, 0, none⟩) (E.length + 1) cap3) HO3.out HD3.out (by decide)
       refine ⟨_, heap_setCell_same (i := 0) _ HD3.out, hBd, ?_⟩
       rw [List.length_append, List.flatMap_append]
       exact hrow
 ·have hne : ((s.length : Int) != (M : Int)) = true := by simp; omega
  have HN : Hid (readE s = none) := Lib.hid (by rw [HR.out, if_neg (by omega)])
  clear h1 h2 h3 HR h4 hM
  go_enter Tryz.func79, Tryz.ntmps79
  go_wp2_with fail
  go_returns
  exact .inl ⟨HN.out, rfl, Ext.refl _⟩
end Go.Proofs.YtclekllaikcglaaGreat
