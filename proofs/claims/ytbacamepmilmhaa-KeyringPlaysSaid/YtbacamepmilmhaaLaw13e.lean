/- Layer 13: what was written is read; rings that are none. -/
import Derived.Test.YtbacamepmilmhaaLaw13a
import Derived.Test.YtbacamepmilmhaaRingP
import Derived.Deep.CutRange
namespace Go.Proofs.Ytbacamepmilmhaa
open Go Go.RowKit

theorem getB_putB4k (e : Nat) (he : e < 4294967296) : getB (putB 4 e) = e := by
  simp only [putB, List.range, List.range.loop, List.map_cons, List.map_nil]
  simp only [getB, List.foldl_cons, List.foldl_nil]
  rw [UInt8.toNat_ofNat', UInt8.toNat_ofNat', UInt8.toNat_ofNat', UInt8.toNat_ofNat']
  simp only [Nat.reduceSub, Nat.reduceMul, Nat.reducePow]
  omega
theorem entB_length (p : Nat × List UInt8) (h : p.2.length = 32) : (entB p).length = 36 := by simp [entB, h]
theorem flat_entB_length : ∀ (E : Eps), (∀ p ∈ E, p.2.length = 32) → (E.flatMap entB).length = 36 * E.length
  | [], _ => rfl
  | p :: E, h => by
    rw [List.flatMap_cons, List.length_append, entB_length p (h p (by simp)), flat_entB_length E (fun q hq => h q (by simp [hq])), List.length_cons]
    omega
theorem flat_drop : ∀ (k : Nat) (E : Eps), (∀ p ∈ E, p.2.length = 32) → (E.flatMap entB).drop (36 * k) = (E.drop k).flatMap entB
  | 0, E, _ => rfl
  | k + 1, [], _ => by simp
  | k + 1, p :: E, h => by
    have hl := entB_length p (h p (by simp))
    rw [List.flatMap_cons, show 36 * (k + 1) = (entB p).length + 36 * k by omega, ← List.drop_drop, List.drop_left, flat_drop k E (fun q hq => h q (by simp [hq]))]
    rfl
theorem bytesE_length (E : Eps) (h : ∀ p ∈ E, p.2.length = 32) : (bytesE E).length = 1 + 36 * E.length := by
  rw [bytesE, List.length_append, flat_entB_length E h]; rfl
theorem bytesE_entry (E : Eps) (h : ∀ p ∈ E, p.2.length = 32) (h32 : ∀ p ∈ E, p.1 < 4294967296) (k : Nat) (hk : k < E.length) : entryAt (bytesE E) k = E[k] := by
  have hm : E[k] ∈ E := List.getElem_mem hk
  have hd : (bytesE E).drop (1 + 36 * k) = putB 4 E[k].1 ++ (E[k].2 ++ (E.drop (k + 1)).flatMap entB) := by
    rw [bytesE, ← List.drop_drop]
    show (E.flatMap entB).drop (36 * k) = _
    rw [flat_drop k E h, List.drop_eq_getElem_cons hk, List.flatMap_cons, entB, List.append_assoc]
  have h1 : seg (bytesE E) (1 + 36 * k) 4 = putB 4 E[k].1 := by
    rw [seg, hd]; exact List.take_left' (by simp)
  have h2 : seg (bytesE E) (5 + 36 * k) 32 = E[k].2 := by
    rw [seg, show 5 + 36 * k = (1 + 36 * k) + 4 by omega, ← List.drop_drop, hd, List.drop_left' (by simp)]
    exact List.take_left' (h _ hm)
  rw [entryAt, h1, h2, getB_putB4k _ (h32 _ hm)]
def PosE (E : Eps) : Prop := ∀ p ∈ E, 0 < p.1
theorem pos_one (key : List UInt8) : PosE [(1, key)] := fun p hp => by simp at hp; subst hp; exact Nat.one_pos
theorem PosE.rot {E : Eps} (h : PosE E) (n : Nat) (key : List UInt8) : PosE (E ++ [(n + 1, key)]) := fun p hp => by
  rcases List.mem_append.1 hp with hp | hp
  · exact h p hp
  · simp at hp; subst hp; exact Nat.succ_pos _
theorem PosE.gone {E : Eps} (h : PosE E) (e : Nat) : PosE (goneE E e) := fun p hp => h p (List.mem_of_mem_eraseP hp)
theorem readN_bytes (E : Eps) (n : Nat) (hI : RI E n) (hpos : PosE E) (hn : n < 4294967296) : ∀ k, k ≤ E.length → readN (bytesE E) k = some (E.take k)
  | 0, _ => rfl
  | k + 1, hk => by
    have hkl : k < E.length := by omega
    rw [readN, readN_bytes E n hI hpos hn k (by omega)]
    simp only [Option.bind_some]
    rw [bytesE_entry E hI.key (fun p hp => by have := hI.le p hp; omega) k hkl, if_neg, List.take_succ_eq_append_getElem hkl]
    cases k with
    | zero => simp [lastE]; have := hpos E[0] (List.getElem_mem hkl); omega
    | succ j =>
      rw [List.take_succ_eq_append_getElem (by omega : j < E.length), lastE_snoc]
      have := (List.pairwise_iff_getElem.1 hI.asc) j (j + 1) (by omega) hkl (by omega)
      omega
theorem RI.lastE {E : Eps} {n : Nat} (h : RI E n) : lastE E = n := by
  obtain ⟨E0, key, rfl⟩ := h.last
  rw [lastE_snoc]
theorem readE_bytes (E : Eps) (n : Nat) (hI : RI E n) (hpos : PosE E) (hn : n < 4294967296) : readE (bytesE E) = some E := by
  have hne : 0 < E.length := List.length_pos_iff.2 hI.ne
  have h64 := hI.len
  have h0 : ((bytesE E).getD 0 0).toNat = E.length := by
    show (b8 E.length).toNat = _
    rw [b8_toNat]; omega
  rw [readE, h0, if_pos ⟨hne, h64, bytesE_length E hI.key⟩, readN_bytes E n hI hpos hn E.length (Nat.le_refl _), List.take_length]
set_option maxRecDepth 100000 in
theorem nil_Rotate (key : List UInt8) (w : World) : Calls Try.prog 25 #[.pointer none, .string (bs key)] w fun e w' => e = .returned (.tuple #[.int .u32 0, .int .i64 1]) ∧ w = w' := by
  have G := Lib.hid ring_made_nil
  go_enter Try.func25, Try.ntmps25
  go_wp2_with (go_at_call 56; with_reducible refine (G.out _).mono ?_; rintro e w' ⟨rfl, rfl⟩)
  go_returns
  exact ⟨rfl, rfl⟩
set_option maxRecDepth 100000 in
theorem nil_Retire (ep : Nat) (w : World) : Calls Try.prog 28 #[.pointer none, .int .u32 (ep : Int)] w fun e w' => e = .returned (.int .i64 1) ∧ w = w' := by
  have G := Lib.hid ring_made_nil
  go_enter Try.func28, Try.ntmps28
  go_wp2_with (go_at_call 56; with_reducible refine (G.out _).mono ?_; rintro e w' ⟨rfl, rfl⟩)
  go_returns
  exact ⟨rfl, rfl⟩
set_option maxRecDepth 100000 in
theorem nil_Newest (w : World) : Calls Try.prog 24 #[.pointer none] w fun e w' => e = .returned (.int .u32 0) ∧ w = w' := by
  have G := Lib.hid ring_made_nil
  go_enter Try.func24, Try.ntmps24
  go_wp2_with (go_at_call 56; with_reducible refine (G.out _).mono ?_; rintro e w' ⟨rfl, rfl⟩)
  go_returns
  exact ⟨rfl, rfl⟩
set_option maxRecDepth 100000 in
theorem nil_Keys (ep : Nat) (w : World) : Calls Try.prog 33 #[.pointer none, .int .u32 (ep : Int)] w fun e w' => e = .returned (.tuple #[.string { data := #[] }, .string { data := #[] }, .bool false]) ∧ w = w' := by
  have G := Lib.hid ring_made_nil
  go_enter Try.func33, Try.ntmps33
  go_wp2_with (go_at_call 56; with_reducible refine (G.out _).mono ?_; rintro e w' ⟨rfl, rfl⟩)
  go_returns
  exact ⟨rfl, rfl⟩
set_option maxRecDepth 100000 in
theorem nil_Epochs (w : World) : Calls Try.prog 32 #[.pointer none] w fun e w' => e = .returned (.slice none 0 0) ∧ w = w' := by
  have G := Lib.hid ring_made_nil
  go_enter Try.func32, Try.ntmps32
  go_wp2_with (go_at_call 56; with_reducible refine (G.out _).mono ?_; rintro e w' ⟨rfl, rfl⟩)
  go_returns
  exact ⟨rfl, rfl⟩
set_option maxRecDepth 100000 in
theorem nil_Bytes (w : World) : Calls Try.prog 42 #[.pointer none] w fun e w' => e = .returned (.string { data := #[] }) ∧ w = w' := by
  have G := Lib.hid nil_Epochs
  go_enter Try.func42, Try.ntmps42
  go_wp2_with (go_at_call 32; with_reducible refine (G.out _).mono ?_; rintro e w' ⟨rfl, rfl⟩)
  go_returns
  exact ⟨rfl, rfl⟩
set_option maxRecDepth 100000 in
theorem nil_Copy (w : World) : Calls Try.prog 43 #[.pointer none] w fun e w' => e = .returned (.pointer none) ∧ w = w' := by
  have G := Lib.hid ring_made_nil
  go_enter Try.func43, Try.ntmps43
  go_wp2_with (go_at_call 56; with_reducible refine (G.out _).mono ?_; rintro e w' ⟨rfl, rfl⟩)
  go_returns
  exact ⟨rfl, rfl⟩
end Go.Proofs.Ytbacamepmilmhaa
namespace Go.Proofs.Ytbacamepmilmhaa
open Go Go.RowKit

set_option maxRecDepth 100000 in
set_option maxHeartbeats 4000000 in
theorem ref_ring_Bytes (B d : Nat) (E : Eps) (n : Nat) (w : World) (h : DocAt w B d E) (hI : RI E n) (hn : n < 4294967296) :
    Calls Try.prog 39 #[.pointer (some ⟨d, 0, none⟩)] w fun e w' => e = .returned (.string (bs (bytesE E))) ∧ Ext w w' := by
  have HB : Hid (bytesE E = [b8 E.length] ++ E.flatMap entB) := Lib.hid rfl
  generalize bytesE E = BY at *
  obtain ⟨g, cap, hd, _, _, _, _, _, hc⟩ := h.look hI.ne
  have HLE := Lib.hid (fun (k : Nat) (hk : k < E.length) => hI.le E[k] (List.getElem_mem hk))
  have h64 := hI.len
  have hne : 0 < E.length := List.length_pos_iff.2 hI.ne
  have HC := Lib.hid hc
  have HD := Lib.hid hd
  have HKEY := Lib.hid hI.key
  obtain ⟨N, hN⟩ : ∃ N, E.length = N := ⟨_, rfl⟩
  have HN := Lib.hid hN
  rw [hN] at h64 hne HB HD
  have hw8 : IntKind.u8.wrap (N : Int) = ((b8 N).toNat : Int) := by rw [b8_toNat _ (by omega), IntKind.wrap_u8]; omega
  have ks := one_str (b8 N)
  generalize b8 N = bN at *
  clear h hd hc hI hN
  have c0 := cell_blk (i := 0) HD.out rfl
  go_enter Try.func39, Try.ntmps39
  go_wp2_with fail
  have HX2 : Hid (Ext w (w.alloc (.cells #[.int .u8 (bN.toNat : Int)] 5))) := Lib.hid ((Ext.refl w).alloc _)
  clear ks hw8 c0
  go_loopg [3, 4] N (fun q s3 s4 wr => ∃ (k : Nat) (t : List UInt8), s3 = .string (bs t) ∧ s4 = .int .i64 (k : Int) ∧ k + q = N ∧ t.length ≤ 1 + 36 * k ∧ Hid (t = [bN] ++ (E.take k).flatMap entB) ∧ Ext w wr)
  case atStart => exact ⟨0, [bN], rfl, rfl, by omega, by simp, Lib.hid (by simp), HX2.out⟩
  case round =>
    obtain ⟨k, t, rfl, rfl, hkq, htl, HT, hx⟩ := hrel
    clear HX2
    have c0 := cell_blk (i := 0) (hx.keep HD.out) rfl
    cases gk with
    | zero =>
      obtain rfl : k = N := by omega
      have HR : Hid (t = BY) := Lib.hid (by rw [HT.out, HB.out, List.take_of_length_le (by have := HN.out; omega)])
      have hlt : decide ((k : Int) < (k : Int)) = false := by simp
      clear HT
      go_wp2
      go_returns
      rw [HR.out]
      exact ⟨rfl, hx⟩
    | succ q =>
      have hkN : k < N := by omega
      have hkE : k < E.length := by have := HN.out; omega
      have c1 := hx.cell_of (HC.out k hkE).1
      have c2 := hx.cell_of (HC.out k hkE).2
      have hle := HLE.out k hkE
      have HS : Hid ((E.take (k + 1)).flatMap entB = (E.take k).flatMap entB ++ (putB 4 E[k].1 ++ E[k].2)) := Lib.hid (flat_take_succ E k hkE)
      obtain ⟨e, he⟩ : ∃ e, E[k].1 = e := ⟨_, rfl⟩
      obtain ⟨key, hkey⟩ : ∃ e, E[k].2 = e := ⟨_, rfl⟩
      rw [he, hkey] at HS
      rw [he] at c1 hle
      rw [hkey] at c2
      have GP : Hid (∀ W, Calls Try.prog 50 #[.int .u64 (e : Int), .int .i64 4] W fun e' w' => e' = .returned (.string (bs (putB 4 e))) ∧ Ext W w') := Lib.hid (fun W => RefPut_any e 4 W (by omega) (by omega) (by unfold U64; omega))
      have hkNi : (k : Int) < (N : Int) := by omega
      have hpl : (putB 4 e).length = 4 := by simp
      have hkl : key.length = 32 := by rw [← hkey]; exact HKEY.out _ (List.getElem_mem hkE)
      have htb : ¬ 9223372036854775807 < t.length + 4 := by omega
      have htb2 : ¬ 9223372036854775807 < t.length + 4 + 32 := by omega
      have hw64 : IntKind.u64.wrap (e : Int) = (e : Int) := by rw [IntKind.wrap_u64]; omega
      generalize putB 4 e = pe at *
      clear he hkey hle hkE
      go_upto_region 5 with fail
      refine Loud.wp_region_weave 21 wr (Loud.sps [.val (.string (bs t)), .val (.pointer (some ⟨d, 0, none⟩)), .val (.pointer (some ⟨d, 0, none⟩)), .val (.pointer (some ⟨d, 0, none⟩)), .val (.slice (some ⟨g, 0, none⟩) N cap), .val (.int .i64 (k : Int)), .val (.pointer (some ⟨g, k * 2, none⟩)), .val (.pointer (some ⟨g, k * 2, none⟩)), .val (.int .u32 (e : Int)), .val (.int .u64 (e : Int)), .val (.string (bs pe)), .val (.string (bs (t ++ pe))), .val (.pointer (some ⟨d, 0, none⟩)), .val (.pointer (some ⟨d, 0, none⟩)), .val (.pointer (some ⟨d, 0, none⟩)), .val (.slice (some ⟨g, 0, none⟩) N cap), .val (.int .i64 (k : Int)), .val (.pointer (some ⟨g, k * 2, none⟩)), .val (.pointer (some ⟨g, k * 2 + 1, none⟩)), .val (.string (bs key)), .val (.string (bs (t ++ (pe ++ key))))]) (by kernel_rfl) (by kernel_rfl) (by show Ext _ _; repeat (first | exact Ext.refl _ | assumption | (with_reducible refine Ext.drew ?_) | (with_reducible refine Ext.drewN ?_ _) | (with_reducible refine Ext.alloc ?_ _) | (refine Ext.trans ?_ (by assumption)))) (Loud.sps_st _) ?wAx1 ?whAx1 ?whSx1 ?whFx1
      case whAx1 => intro u K hK; simp only [List.take_succ_cons, List.take_zero, Loud.puts]; go_simp; exact hK
      case whSx1 =>
        simp only [List.take_succ_cons, List.take_zero, Loud.stepsW]
        refine ⟨?wsx1_0, ?wsx1_1, ?wsx1_2, ?wsx1_3, ?wsx1_4, ?wsx1_5, ?wsx1_6, ?wsx1_7, ?wsx1_8, ?wsx1_9, ?wsx1_10, ?wsx1_11, ?wsx1_12, ?wsx1_13, ?wsx1_14, ?wsx1_15, ?wsx1_16, ?wsx1_17, ?wsx1_18, ?wsx1_19, ?wsx1_20, trivial⟩
        case wsx1_0 =>
          intro u β wq hq h
          repeat (obtain ⟨h1, h⟩ := h; first | (replace h1 := h1 rfl; simp only [go_sem] at h1; try (obtain ⟨h1, h1b⟩ := h1)) | (have hno := (h1 : Region.binds _ _ = true → _); clear hno h1))
          refine Or.inl ⟨rfl, fun K hK => ?_⟩
          go_simp
          exact hK _ 0 _ (Ext.refl _) rfl
        case wsx1_1 =>
          intro u β wq hq h
          repeat (obtain ⟨h1, h⟩ := h; first | (replace h1 := h1 rfl; simp only [go_sem] at h1; try (obtain ⟨h1, h1b⟩ := h1)) | (have hno := (h1 : Region.binds _ _ = true → _); clear hno h1))
          refine Or.inl ⟨rfl, fun K hK => ?_⟩
          go_simp
          exact hK _ 0 _ (Ext.refl _) rfl
        case wsx1_2 =>
          intro u β wq hq h
          repeat (obtain ⟨h1, h⟩ := h; first | (replace h1 := h1 rfl; simp only [go_sem] at h1; try (obtain ⟨h1, h1b⟩ := h1)) | (have hno := (h1 : Region.binds _ _ = true → _); clear hno h1))
          refine Or.inl ⟨rfl, fun K hK => ?_⟩
          go_simp
          exact hK _ 0 _ (Ext.refl _) rfl
        case wsx1_3 =>
          intro u β wq hq h
          repeat (obtain ⟨h1, h⟩ := h; first | (replace h1 := h1 rfl; simp only [go_sem] at h1; try (obtain ⟨h1, h1b⟩ := h1)) | (have hno := (h1 : Region.binds _ _ = true → _); clear hno h1))
          refine Or.inl ⟨rfl, fun K hK => ?_⟩
          go_simp
          exact hK _ 0 _ (Ext.refl _) rfl
        case wsx1_4 =>
          intro u β wq hq h
          repeat (obtain ⟨h1, h⟩ := h; first | (replace h1 := h1 rfl; simp only [go_sem] at h1; try (obtain ⟨h1, h1b⟩ := h1)) | (have hno := (h1 : Region.binds _ _ = true → _); clear hno h1))
          refine Or.inl ⟨rfl, fun K hK => ?_⟩
          have hqc := hq.cell_of c0
          go_simp
          exact hK _ 0 _ (Ext.refl _) rfl
        case wsx1_5 =>
          intro u β wq hq h
          repeat (obtain ⟨h1, h⟩ := h; first | (replace h1 := h1 rfl; simp only [go_sem] at h1; try (obtain ⟨h1, h1b⟩ := h1)) | (have hno := (h1 : Region.binds _ _ = true → _); clear hno h1))
          refine Or.inl ⟨rfl, fun K hK => ?_⟩
          go_simp
          exact hK _ 0 _ (Ext.refl _) rfl
        case wsx1_6 =>
          intro u β wq hq h
          repeat (obtain ⟨h1, h⟩ := h; first | (replace h1 := h1 rfl; simp only [go_sem] at h1; try (obtain ⟨h1, h1b⟩ := h1)) | (have hno := (h1 : Region.binds _ _ = true → _); clear hno h1))
          refine Or.inl ⟨rfl, fun K hK => ?_⟩
          go_simp
          exact hK _ 0 _ (Ext.refl _) rfl
        case wsx1_7 =>
          intro u β wq hq h
          repeat (obtain ⟨h1, h⟩ := h; first | (replace h1 := h1 rfl; simp only [go_sem] at h1; try (obtain ⟨h1, h1b⟩ := h1)) | (have hno := (h1 : Region.binds _ _ = true → _); clear hno h1))
          refine Or.inl ⟨rfl, fun K hK => ?_⟩
          go_simp
          exact hK _ 0 _ (Ext.refl _) rfl
        case wsx1_8 =>
          intro u β wq hq h
          repeat (obtain ⟨h1, h⟩ := h; first | (replace h1 := h1 rfl; simp only [go_sem] at h1; try (obtain ⟨h1, h1b⟩ := h1)) | (have hno := (h1 : Region.binds _ _ = true → _); clear hno h1))
          refine Or.inl ⟨rfl, fun K hK => ?_⟩
          have hqc := hq.cell_of c1
          go_simp
          exact hK _ 0 _ (Ext.refl _) rfl
        case wsx1_9 =>
          intro u β wq hq h
          repeat (obtain ⟨h1, h⟩ := h; first | (replace h1 := h1 rfl; simp only [go_sem] at h1; try (obtain ⟨h1, h1b⟩ := h1)) | (have hno := (h1 : Region.binds _ _ = true → _); clear hno h1))
          refine Or.inl ⟨rfl, fun K hK => ?_⟩
          go_simp
          exact hK _ 0 _ (Ext.refl _) rfl
        case wsx1_10 =>
          intro u β wq hq h
          repeat (obtain ⟨h1, h⟩ := h; first | (replace h1 := h1 rfl; simp only [go_sem] at h1; try (obtain ⟨h1, h1b⟩ := h1)) | (have hno := (h1 : Region.binds _ _ = true → _); clear hno h1))
          refine Or.inl ⟨rfl, fun K hK => ?_⟩
          go_simp
          refine (GP.out _).mono ?_; rintro e w1 ⟨rfl, hx1⟩; exact ⟨_, rfl, hK _ 0 _ hx1 rfl⟩
        case wsx1_11 =>
          intro u β wq hq h
          repeat (obtain ⟨h1, h⟩ := h; first | (replace h1 := h1 rfl; simp only [go_sem] at h1; try (obtain ⟨h1, h1b⟩ := h1)) | (have hno := (h1 : Region.binds _ _ = true → _); clear hno h1))
          refine Or.inl ⟨rfl, fun K hK => ?_⟩
          go_simp
          exact hK _ 0 _ (Ext.refl _) rfl
        case wsx1_12 =>
          intro u β wq hq h
          repeat (obtain ⟨h1, h⟩ := h; first | (replace h1 := h1 rfl; simp only [go_sem] at h1; try (obtain ⟨h1, h1b⟩ := h1)) | (have hno := (h1 : Region.binds _ _ = true → _); clear hno h1))
          refine Or.inl ⟨rfl, fun K hK => ?_⟩
          go_simp
          exact hK _ 0 _ (Ext.refl _) rfl
        case wsx1_13 =>
          intro u β wq hq h
          repeat (obtain ⟨h1, h⟩ := h; first | (replace h1 := h1 rfl; simp only [go_sem] at h1; try (obtain ⟨h1, h1b⟩ := h1)) | (have hno := (h1 : Region.binds _ _ = true → _); clear hno h1))
          refine Or.inl ⟨rfl, fun K hK => ?_⟩
          go_simp
          exact hK _ 0 _ (Ext.refl _) rfl
        case wsx1_14 =>
          intro u β wq hq h
          repeat (obtain ⟨h1, h⟩ := h; first | (replace h1 := h1 rfl; simp only [go_sem] at h1; try (obtain ⟨h1, h1b⟩ := h1)) | (have hno := (h1 : Region.binds _ _ = true → _); clear hno h1))
          refine Or.inl ⟨rfl, fun K hK => ?_⟩
          go_simp
          exact hK _ 0 _ (Ext.refl _) rfl
        case wsx1_15 =>
          intro u β wq hq h
          repeat (obtain ⟨h1, h⟩ := h; first | (replace h1 := h1 rfl; simp only [go_sem] at h1; try (obtain ⟨h1, h1b⟩ := h1)) | (have hno := (h1 : Region.binds _ _ = true → _); clear hno h1))
          refine Or.inl ⟨rfl, fun K hK => ?_⟩
          have hqc := hq.cell_of c0
          go_simp
          exact hK _ 0 _ (Ext.refl _) rfl
        case wsx1_16 =>
          intro u β wq hq h
          repeat (obtain ⟨h1, h⟩ := h; first | (replace h1 := h1 rfl; simp only [go_sem] at h1; try (obtain ⟨h1, h1b⟩ := h1)) | (have hno := (h1 : Region.binds _ _ = true → _); clear hno h1))
          refine Or.inl ⟨rfl, fun K hK => ?_⟩
          go_simp
          exact hK _ 0 _ (Ext.refl _) rfl
        case wsx1_17 =>
          intro u β wq hq h
          repeat (obtain ⟨h1, h⟩ := h; first | (replace h1 := h1 rfl; simp only [go_sem] at h1; try (obtain ⟨h1, h1b⟩ := h1)) | (have hno := (h1 : Region.binds _ _ = true → _); clear hno h1))
          refine Or.inl ⟨rfl, fun K hK => ?_⟩
          go_simp
          exact hK _ 0 _ (Ext.refl _) rfl
        case wsx1_18 =>
          intro u β wq hq h
          repeat (obtain ⟨h1, h⟩ := h; first | (replace h1 := h1 rfl; simp only [go_sem] at h1; try (obtain ⟨h1, h1b⟩ := h1)) | (have hno := (h1 : Region.binds _ _ = true → _); clear hno h1))
          refine Or.inl ⟨rfl, fun K hK => ?_⟩
          go_simp
          exact hK _ 0 _ (Ext.refl _) rfl
        case wsx1_19 =>
          intro u β wq hq h
          repeat (obtain ⟨h1, h⟩ := h; first | (replace h1 := h1 rfl; simp only [go_sem] at h1; try (obtain ⟨h1, h1b⟩ := h1)) | (have hno := (h1 : Region.binds _ _ = true → _); clear hno h1))
          refine Or.inl ⟨rfl, fun K hK => ?_⟩
          have hqc := hq.cell_of c2
          go_simp
          exact hK _ 0 _ (Ext.refl _) rfl
        case wsx1_20 =>
          intro u β wq hq h
          repeat (obtain ⟨h1, h⟩ := h; first | (replace h1 := h1 rfl; simp only [go_sem] at h1; try (obtain ⟨h1, h1b⟩ := h1)) | (have hno := (h1 : Region.binds _ _ = true → _); clear hno h1))
          refine Or.inl ⟨rfl, fun K hK => ?_⟩
          go_simp
          exact hK _ 0 _ (Ext.refl _) rfl
      intro u β w5 hq h
      have h0 := h 0 (by omega)
      have h1 := h 1 (by omega)
      have h2 := h 2 (by omega)
      have h3 := h 3 (by omega)
      have h4 := h 4 (by omega)
      have h5 := h 5 (by omega)
      have h6 := h 6 (by omega)
      have h7 := h 7 (by omega)
      have h8 := h 8 (by omega)
      have h9 := h 9 (by omega)
      have h10 := h 10 (by omega)
      have h11 := h 11 (by omega)
      have h12 := h 12 (by omega)
      have h13 := h 13 (by omega)
      have h14 := h 14 (by omega)
      have h15 := h 15 (by omega)
      have h16 := h 16 (by omega)
      have h17 := h 17 (by omega)
      have h18 := h 18 (by omega)
      have h19 := h 19 (by omega)
      have h20 := h 20 (by omega)
      clear h
      simp only [go_sem] at h0 h1 h2 h3 h4 h5 h6 h7 h8 h9 h10 h11 h12 h13 h14 h15 h16 h17 h18 h19 h20
      simp only [List.drop_succ_cons, List.drop_zero]
      rw [h20]
      have hx5 := hx.trans hq
      clear h0 h1 h2 h3 h4 h5 h6 h7 h8 h9 h10 h11 h12 h13 h14 h15 h16 h17 h18 h19 hq c0 c1 c2 hx
      go_wp2
      go_roundg q
      case measure => omega
      case rel => exact ⟨k + 1, _, rfl, by go_num, by omega, by simp; omega, Lib.hid (by rw [HS.out, HT.out]; simp [List.append_assoc]), hx5⟩
end Go.Proofs.Ytbacamepmilmhaa
namespace Go.Proofs.Ytbacamepmilmhaa
open Go Go.RowKit

set_option maxRecDepth 100000 in
set_option maxHeartbeats 4000000 in
theorem ring_same (r m B d : Nat) (E : Eps) (n : Nat) (w : World) (h : RingAt w r m E n) (h2 : DocAt w B d E) (hI : RI E n) (hn : n < 4294967296) :
    Calls Try.prog 37 #[.pointer (some ⟨r, 0, none⟩), .pointer (some ⟨d, 0, none⟩)] w fun e w' => e = .returned (.bool true) ∧ Ext w w' := by
  have GE := Lib.hid (epochs_a w r m E n h hI)
  have GN := Lib.hid (fun W (hx : Ext w W) => ring_Newest r m E n W (h.ext hx) hI.pos)
  have h64 := hI.len
  have GDN : Hid (∀ W, Ext w W → Calls Try.prog 48 #[.pointer (some ⟨d, 0, none⟩)] W fun e w' => e = .returned (.int .u32 (n : Int)) ∧ Ext W w') := Lib.hid (by
    intro W hx
    obtain ⟨E0, key, rfl⟩ := hI.last
    exact ref_ring_Newest B d E0 n key W (h2.ext hx) (by simp at h64; omega))
  have GB := Lib.hid (fun W (hx : Ext w W) => ring_Bytes r m E n W (h.ext hx) hI hn)
  have GDB := Lib.hid (fun W (hx : Ext w W) => ref_ring_Bytes B d E n W (h2.ext hx) hI hn)
  obtain ⟨BY, hBY⟩ : ∃ x, bytesE E = x := ⟨_, rfl⟩
  rw [hBY] at GB GDB
  obtain ⟨gd, cap, hd, _, _, _, _, _, hc⟩ := h2.look hI.ne
  have HC := Lib.hid hc
  have HD := Lib.hid hd
  obtain ⟨N, hN⟩ : ∃ N, E.length = N := ⟨_, rfl⟩
  have HN := Lib.hid hN
  rw [hN] at h64 HD
  clear h h2 hI hd hc hN hBY
  go_enter Try.func37, Try.ntmps37
  go_upto_region 2 with (go_at_call 32; (with_reducible refine GE.out.mono ?_); rintro e w1 ⟨g, cap1, rfl, hcs, _, hx1⟩; have HCS := Lib.hid hcs; have HX := Lib.hid hx1; have HE := Lib.hid (Ext.refl w1); have hc0 := cell_blk (i := 0) (hx1.keep HD.out) rfl; rw [HN.out]; clear hcs hx1)
  obtain ⟨w2, hw2⟩ : ∃ x, x = w1 := ⟨_, rfl⟩
  rw [← hw2] at HX HE hc0 HCS ⊢
  have HE : Hid (Ext w2 w2) := Lib.hid (Ext.refl w2)
  clear hw2
  go_upto_region 4 with (first
    | (go_at_call 24; (with_reducible refine (GN.out _ (HX.out.trans HE.out)).mono ?_); rintro e w' ⟨rfl, rfl⟩)
    | (go_at_call 48; (with_reducible refine (GDN.out _ (HX.out.trans HE.out)).mono ?_); rintro e w3 ⟨rfl, hx3⟩; have h1 := HE.out.trans hx3; clear HE hx3; have HE := Lib.hid h1; clear h1)
    | (go_at_call 42; (with_reducible refine (GB.out _ (HX.out.trans HE.out)).mono ?_); rintro e w3 ⟨rfl, hx3⟩; have h1 := HE.out.trans hx3; clear HE hx3; have HE := Lib.hid h1; clear h1)
    | (go_at_call 39; (with_reducible refine (GDB.out _ (HX.out.trans HE.out)).mono ?_); rintro e w3 ⟨rfl, hx3⟩; have h1 := HE.out.trans hx3; clear HE hx3; have HE := Lib.hid h1; clear h1))
  go_wp2
  clear hc0
  go_loopg [6] N (fun q s6 wr => ∃ k : Nat, s6 = .int .i64 (k : Int) ∧ k + q = N ∧ Hid (Ext w2 wr))
  case atStart => exact ⟨0, rfl, by omega, HE⟩
  case round =>
    obtain ⟨k, rfl, hkq, HX5⟩ := hrel
    clear HE
    cases gk with
    | zero =>
      obtain rfl : k = N := by omega
      have hlt : decide ((k : Int) < (k : Int)) = false := by simp
      go_wp2
      go_returns
      exact ⟨rfl, HX.out.trans HX5.out⟩
    | succ q =>
      have hkN : k < N := by omega
      have hkE : k < E.length := by have := HN.out; omega
      have hkNi : (k : Int) < (N : Int) := by omega
      have c0 := cell_blk (i := 0) ((HX.out.trans HX5.out).keep HD.out) rfl
      have c1 := (HX.out.trans HX5.out).cell_of (HC.out k hkE).1
      have c2 := HX5.out.cell_of (HCS.out k hkE)
      obtain ⟨e, he⟩ : ∃ e, E[k].1 = e := ⟨_, rfl⟩
      rw [he] at c1 c2
      clear he hkE
      go_upto_region 7 with fail
      go_quiet (fail)
      go_wp2_with fail
      go_roundg q
      case measure => omega
      case rel => exact ⟨k + 1, by go_num, by omega, Lib.hid (HX5.out.drewN nq)⟩
end Go.Proofs.Ytbacamepmilmhaa
namespace Go.Proofs.Ytbacamepmilmhaa
open Go Go.RowKit

theorem look_len {E : Eps} {n ep : Nat} {s : List UInt8} (hI : RI E n) (hs : lookE E ep = some s) : s.length = 32 := by
  unfold lookE at hs
  obtain ⟨p, hp, hps⟩ := Option.map_eq_some_iff.1 hs
  rw [← hps]
  exact hI.key p (List.mem_of_find?_eq_some hp)
theorem look_big {s : List UInt8} (h : s.length = 32) : s.length ≤ 1099511627776 := by omega
structure PL (w0 : World) (r m d : Nat) (E : Eps) (n : Nat) (E2 : Eps) (W : World) : Prop where
  ring : RX w0 r m E n W
  doc : DocAt W w0.heap.size d E2
section
variable {w0 : World} {r m d n n2 : Nat} {E E2 : Eps}
theorem PL.next {W W' : World} (h : PL w0 r m d E n E2 W) (hx : Ext W W') : PL w0 r m d E n E2 W' := ⟨h.ring.next hx, h.doc.ext hx⟩
theorem PL.rput {W W' : World} {E' : Eps} {n' : Nat} (h : PL w0 r m d E n E2 W) (hr : RingAt W' r m E' n') (hb : But [r, m] W W') : PL w0 r m d E' n' E2 W' :=
  ⟨h.ring.put hr hb, h.doc.but h.ring.ring hb⟩
theorem PL.dput {W W' : World} {E' : Eps} (h : PL w0 r m d E n E2 W) (hd : DocAt W' w0.heap.size d E') (hb : Below w0.heap.size W W') (hk : KeepsD d W W') : PL w0 r m d E n E' W' :=
  ⟨⟨h.ring.ring.keepsD h.doc hk, h.ring.ext.trans_below hb (Nat.le_refl _), h.ring.rnew, h.ring.mnew⟩, hd⟩
theorem PL.size {W : World} (h : PL w0 r m d E n E2 W) : w0.heap.size ≤ W.heap.size := h.ring.ext.size
theorem plR_rot (hI : RI E n) (hl : E.length < 64) (hn : n < 4294967295) (key : List UInt8) (hk : key.length = 32) (W : World) (h : PL w0 r m d E n E2 W) :
    Calls Try.prog 25 #[.pointer (some ⟨r, 0, none⟩), .string (bs key)] W fun e w' => e = .returned (.tuple #[.int .u32 ((n + 1 : Nat) : Int), .int .i64 0]) ∧ PL w0 r m d (E ++ [(n + 1, key)]) (n + 1) E2 w' := by
  refine (ring_Rotate r m E n key W h.ring.ring hI.pos hk hl hn (hI.new (by omega))).mono ?_
  rintro e w' ⟨rfl, h1, hb⟩
  exact ⟨rfl, h.rput h1 hb⟩
theorem plR_full (hI : RI E n) (hl : ¬ E.length < 64) (key : List UInt8) (hk : key.length = 32) (W : World) (h : PL w0 r m d E n E2 W) :
    Calls Try.prog 25 #[.pointer (some ⟨r, 0, none⟩), .string (bs key)] W fun e w' => e = .returned (.tuple #[.int .u32 0, .int .i64 4]) ∧ W = w' := rotate_full w0 W r m E n key h.ring hI hl hk
theorem plR_arg (hI : RI E n) (key : List UInt8) (hk : key.length ≠ 32) (hk2 : key.length ≤ 140737488351232) (W : World) (h : PL w0 r m d E n E2 W) :
    Calls Try.prog 25 #[.pointer (some ⟨r, 0, none⟩), .string (bs key)] W fun e w' => e = .returned (.tuple #[.int .u32 0, .int .i64 2]) ∧ W = w' := ring_Rotate_arg r m E n key W h.ring.ring hI.pos hk hk2
theorem plD_rot (hI : RI E2 n2) (hl : E2.length < 64) (hn : n2 < 4294967295) (key : List UInt8) (hk : key.length = 32) (W : World) (h : PL w0 r m d E n E2 W) :
    Calls Try.prog 36 #[.pointer (some ⟨d, 0, none⟩), .string (bs key)] W fun e w' => e = .returned (.tuple #[.int .u32 ((n2 + 1 : Nat) : Int), .int .i64 0]) ∧ PL w0 r m d E n (E2 ++ [(n2 + 1, key)]) w' := by
  obtain ⟨E0, k0, rfl⟩ := hI.last
  refine (ref_ring_Rotate w0.heap.size d E0 n2 k0 key W h.doc h.size hk (by simpa using hl) hn).mono ?_
  rintro e w' ⟨rfl, h1, hb, hkd⟩
  exact ⟨rfl, h.dput h1 hb hkd⟩
theorem plD_full (hI : RI E2 n2) (hl : ¬ E2.length < 64) (key : List UInt8) (hk : key.length = 32) (W : World) (h : PL w0 r m d E n E2 W) :
    Calls Try.prog 36 #[.pointer (some ⟨d, 0, none⟩), .string (bs key)] W fun e w' => e = .returned (.tuple #[.int .u32 0, .int .i64 4]) ∧ PL w0 r m d E n E2 w' := by
  have h64 := hI.len
  obtain ⟨E0, k0, rfl⟩ := hI.last
  simp at hl h64
  refine (ref_ring_Rotate_full w0.heap.size d E0 n2 k0 key W h.doc hk (by omega) (by omega)).mono ?_
  rintro e w' ⟨rfl, hx⟩
  exact ⟨rfl, h.next hx⟩
theorem plR_ret (hI : RI E n) (ep : Nat) (he : ep ≠ n) {s : List UInt8} (hs : lookE E ep = some s) (W : World) (h : PL w0 r m d E n E2 W) :
    Calls Try.prog 28 #[.pointer (some ⟨r, 0, none⟩), .int .u32 (ep : Int)] W fun e w' => e = .returned (.int .i64 0) ∧ PL w0 r m d (goneE E ep) n E2 w' := by
  refine (ring_Retire r m E n ep W h.ring.ring hI.pos he hs).mono ?_
  rintro e w' ⟨rfl, h1, hb⟩
  exact ⟨rfl, h.rput h1 (but_pair hb)⟩
theorem plR_ret_new (hI : RI E n) (W : World) (h : PL w0 r m d E n E2 W) :
    Calls Try.prog 28 #[.pointer (some ⟨r, 0, none⟩), .int .u32 (n : Int)] W fun e w' => e = .returned (.int .i64 2) ∧ W = w' := ring_Retire_new r m E n W h.ring.ring hI.pos
theorem plR_ret_none (hI : RI E n) (ep : Nat) (he : ep ≠ n) (hs : lookE E ep = none) (W : World) (h : PL w0 r m d E n E2 W) :
    Calls Try.prog 28 #[.pointer (some ⟨r, 0, none⟩), .int .u32 (ep : Int)] W fun e w' => e = .returned (.int .i64 3) ∧ W = w' := ring_Retire_none r m E n ep W h.ring.ring hI.pos he hs
theorem plD_ret (hI : RI E2 n2) (ep : Nat) (he : ep ≠ n2) {s : List UInt8} (hs : lookE E2 ep = some s) (W : World) (h : PL w0 r m d E n E2 W) :
    Calls Try.prog 35 #[.pointer (some ⟨d, 0, none⟩), .int .u32 (ep : Int)] W fun e w' => e = .returned (.int .i64 0) ∧ PL w0 r m d E n (goneE E2 ep) w' := by
  have h64 := hI.len
  have ha := hI.asc
  obtain ⟨E0, k0, rfl⟩ := hI.last
  simp at h64
  refine (ref_ring_Retire w0.heap.size d E0 n2 ep k0 W h.doc h.size (by omega) he ha hs).mono ?_
  rintro e w' ⟨rfl, h1, hb, hkd⟩
  exact ⟨rfl, h.dput h1 hb hkd⟩
theorem plD_ret_new (hI : RI E2 n2) (W : World) (h : PL w0 r m d E n E2 W) :
    Calls Try.prog 35 #[.pointer (some ⟨d, 0, none⟩), .int .u32 (n2 : Int)] W fun e w' => e = .returned (.int .i64 2) ∧ PL w0 r m d E n E2 w' := by
  have h64 := hI.len
  obtain ⟨E0, k0, rfl⟩ := hI.last
  simp at h64
  refine (ref_ring_Retire_new w0.heap.size d E0 n2 k0 W h.doc (by omega)).mono ?_
  rintro e w' ⟨rfl, hx⟩
  exact ⟨rfl, h.next hx⟩
theorem plD_ret_none (hI : RI E2 n2) (ep : Nat) (he : ep ≠ n2) (hs : lookE E2 ep = none) (W : World) (h : PL w0 r m d E n E2 W) :
    Calls Try.prog 35 #[.pointer (some ⟨d, 0, none⟩), .int .u32 (ep : Int)] W fun e w' => e = .returned (.int .i64 3) ∧ PL w0 r m d E n E2 w' := by
  have h64 := hI.len
  obtain ⟨E0, k0, rfl⟩ := hI.last
  simp at h64
  refine (ref_ring_Retire_none w0.heap.size d E0 n2 ep k0 W h.doc (by omega) he hs).mono ?_
  rintro e w' ⟨rfl, hx⟩
  exact ⟨rfl, h.next hx⟩
theorem pl_same (hI : RI E n) (hn : n < 4294967296) (W : World) (h : PL w0 r m d E n E W) :
    Calls Try.prog 37 #[.pointer (some ⟨r, 0, none⟩), .pointer (some ⟨d, 0, none⟩)] W fun e w' => e = .returned (.bool true) ∧ PL w0 r m d E n E w' :=
  (ring_same r m w0.heap.size d E n W h.ring.ring h.doc hI hn).mono fun _ _ ⟨he, hx⟩ => ⟨he, h.next hx⟩
def keyR (E : Eps) (ep : Nat) : List UInt8 × List UInt8 × Bool := match lookE E ep with | some s => (derL s lblC 16, derL s lblT 32, true) | none => ([], [], false)
theorem keyR_some {ep : Nat} {s : List UInt8} (h : lookE E ep = some s) : keyR E ep = (derL s lblC 16, derL s lblT 32, true) := by unfold keyR; rw [h]
theorem keyR_none {ep : Nat} (h : lookE E ep = none) : keyR E ep = ([], [], false) := by unfold keyR; rw [h]
theorem keyR_use {E : Eps} {ep : Nat} {f : FuncId} {args : Array Value} {W : World} {T : World → Prop} (a b : List UInt8) (c : Bool) (h : keyR E ep = (a, b, c)) (hc : Calls Try.prog f args W fun e w' => e = .returned (.tuple #[.string (bs a), .string (bs b), .bool c]) ∧ T w') :
    Calls Try.prog f args W fun e w' => e = .returned (.tuple #[.string (bs (keyR E ep).1), .string (bs (keyR E ep).2.1), .bool (keyR E ep).2.2]) ∧ T w' := by
  rw [h]; exact hc
theorem plR_key (hI : RI E n) (ep : Nat) (W : World) (h : PL w0 r m d E n E2 W) :
    Calls Try.prog 33 #[.pointer (some ⟨r, 0, none⟩), .int .u32 (ep : Int)] W fun e w' => e = .returned (.tuple #[.string (bs (keyR E ep).1), .string (bs (keyR E ep).2.1), .bool (keyR E ep).2.2]) ∧ PL w0 r m d E n E2 w' := by
  have h64 := hI.len
  cases hs : lookE E ep with
  | some s => exact keyR_use _ _ _ (keyR_some hs) ((ring_Keys r m E n ep W h.ring.ring hI.pos hs (look_big (look_len hI hs))).mono fun _ _ ⟨he, hx⟩ => ⟨he, h.next hx⟩)
  | none => exact keyR_use _ _ _ (keyR_none hs) ((ring_Keys_none r m E n ep W h.ring.ring hI.pos hs).mono fun _ _ ⟨he, hx⟩ => ⟨he, by subst hx; exact h⟩)
theorem plD_key (hI : RI E2 n2) (ep : Nat) (W : World) (h : PL w0 r m d E n E2 W) :
    Calls Try.prog 38 #[.pointer (some ⟨d, 0, none⟩), .int .u32 (ep : Int)] W fun e w' => e = .returned (.tuple #[.string (bs (keyR E2 ep).1), .string (bs (keyR E2 ep).2.1), .bool (keyR E2 ep).2.2]) ∧ PL w0 r m d E n E2 w' := by
  have h64 := hI.len
  cases hs : lookE E2 ep with
  | some s => exact keyR_use _ _ _ (keyR_some hs) ((ref_ring_Keys w0.heap.size d E2 ep W h.doc (by omega) hs (look_big (look_len hI hs))).mono fun _ _ ⟨he, hx⟩ => ⟨he, h.next hx⟩)
  | none => exact keyR_use _ _ _ (keyR_none hs) ((ref_ring_Keys_none w0.heap.size d E2 ep W h.doc hI.ne (by omega) hs).mono fun _ _ ⟨he, hx⟩ => ⟨he, by subst hx; exact h⟩)
theorem plW (W : World) (h : PL w0 r m d E n E2 W) : Calls Try.prog 30 #[] W fun e w' => e = .returned (.bool true) ∧ Ext w0 w' :=
  (works13 W).mono fun _ _ ⟨he, hx⟩ => ⟨he, h.ring.ext.trans hx⟩
end
def RotC (w0 : World) (r m d : Nat) (E : Eps) (n : Nat) (key : List UInt8) (v1 : Nat) (v2 : Int) (E' : Eps) (n' : Nat) : Prop := ∀ W, PL w0 r m d E n E W → Calls Try.prog 25 #[.pointer (some ⟨r, 0, none⟩), .string (bs key)] W fun e w' => e = .returned (.tuple #[.int .u32 (v1 : Int), .int .i64 v2]) ∧ PL w0 r m d E' n' E w'
def RotD (w0 : World) (r m d : Nat) (E : Eps) (n : Nat) (key : List UInt8) (v1 : Nat) (v2 : Int) (E' : Eps) (n' : Nat) : Prop := ∀ W, PL w0 r m d E' n' E W → Calls Try.prog 36 #[.pointer (some ⟨d, 0, none⟩), .string (bs key)] W fun e w' => e = .returned (.tuple #[.int .u32 (v1 : Int), .int .i64 v2]) ∧ PL w0 r m d E' n' E' w'
theorem pl_rotate (w0 : World) (r m d : Nat) {E : Eps} {n : Nat} (hI : RI E n) (hn : n < 4294967295) (key : List UInt8) (hk : key.length ≤ 140737488351232) :
    ∃ v1 v2 E' n', n' ≤ n + 1 ∧ RI E' n' ∧ RotC w0 r m d E n key v1 v2 E' n' ∧ RotD w0 r m d E n key v1 v2 E' n' := by
  by_cases h32 : key.length = 32
  · by_cases hf : E.length < 64
    · exact ⟨n + 1, 0, _, _, Nat.le_refl _, hI.rot hf h32, fun W h => plR_rot hI hf hn key h32 W h, fun W h => plD_rot hI hf hn key h32 W h⟩
    · exact ⟨0, 4, E, n, by omega, hI, fun W h => (plR_full hI hf key h32 W h).mono fun _ _ ⟨he, hw⟩ => ⟨he, hw ▸ h⟩, fun W h => plD_full hI hf key h32 W h⟩
  · exact ⟨0, 2, E, n, by omega, hI, fun W h => (plR_arg hI key h32 hk W h).mono fun _ _ ⟨he, hw⟩ => ⟨he, hw ▸ h⟩, fun W h => (ref_ring_Rotate_arg d key W h32 hk).mono fun _ _ ⟨he, hw⟩ => ⟨he, hw ▸ h⟩⟩
def RetC (w0 : World) (r m d : Nat) (E : Eps) (n ep : Nat) (v : Int) (E' : Eps) : Prop := ∀ W, PL w0 r m d E n E W → Calls Try.prog 28 #[.pointer (some ⟨r, 0, none⟩), .int .u32 (ep : Int)] W fun e w' => e = .returned (.int .i64 v) ∧ PL w0 r m d E' n E w'
def RetD (w0 : World) (r m d : Nat) (E : Eps) (n ep : Nat) (v : Int) (E' : Eps) : Prop := ∀ W, PL w0 r m d E' n E W → Calls Try.prog 35 #[.pointer (some ⟨d, 0, none⟩), .int .u32 (ep : Int)] W fun e w' => e = .returned (.int .i64 v) ∧ PL w0 r m d E' n E' w'
theorem pl_retire (w0 : World) (r m d : Nat) {E : Eps} {n : Nat} (hI : RI E n) (ep : Nat) : ∃ v E', RI E' n ∧ RetC w0 r m d E n ep v E' ∧ RetD w0 r m d E n ep v E' := by
  by_cases he : ep = n
  · subst he
    exact ⟨2, E, hI, fun W h => (plR_ret_new hI W h).mono fun _ _ ⟨he, hw⟩ => ⟨he, hw ▸ h⟩, fun W h => plD_ret_new hI W h⟩
  · cases hs : lookE E ep with
    | none => exact ⟨3, E, hI, fun W h => (plR_ret_none hI ep he hs W h).mono fun _ _ ⟨he, hw⟩ => ⟨he, hw ▸ h⟩, fun W h => plD_ret_none hI ep he hs W h⟩
    | some s => exact ⟨0, goneE E ep, hI.gone he, fun W h => plR_ret hI ep he hs W h, fun W h => plD_ret hI ep he hs W h⟩
def NewAny (key : List UInt8) (W : World) (e : Ending) (w' : World) : Prop := ∃ p v, e = .returned (.tuple #[.pointer p, .int .i64 v]) ∧ (v = 0 ∧ key.length = 32 ∨ v = 2 ∧ key.length ≠ 32) ∧ Ext W w'
theorem new_any (key : List UInt8) (W : World) (hk : key.length ≤ 140737488351232) : Calls Try.prog 31 #[.string (bs key)] W (NewAny key W) := by
  by_cases h : key.length = 32
  · refine (ring_New key W h).mono ?_
    rintro e w' ⟨r, m, rfl, _, _, _, _, hx⟩
    exact ⟨_, 0, rfl, .inl ⟨rfl, h⟩, hx⟩
  · refine (ring_New_no key W h hk).mono ?_
    rintro e w' ⟨rfl, rfl⟩
    exact ⟨_, 2, rfl, .inr ⟨rfl, h⟩, Ext.refl _⟩
end Go.Proofs.Ytbacamepmilmhaa
set_option linter.unusedVariables false
namespace Go.Proofs.Ytbacamepmilmhaa
open Go Go.RowKit

set_option maxRecDepth 100000 in
set_option maxHeartbeats 16000000 in
theorem law_KeyringPlays (w : World) (a : List UInt8) (l : List ActL) (ad : Option Addr) (cap : Nat) (ask : Nat) (ha : a.length ≤ 140737488351232) (hl : l.length ≤ maxLen) (h : SlA w ad l) :
    Calls Try.prog 8 #[.string (bs a), .slice ad l.length cap, .int .u32 (ask : Int)] w fun e w' => e = .returned (.bool true) ∧ Ext w w' := by
  have GW := Lib.hid works13
  have GH := Lib.hid (heavy13 l ad cap w h hl)
  cases hh : heavyA l
  case true =>
    rw [hh] at GH
    clear hh h hl
    go_enter Try.func8, Try.ntmps8
    go_wp2_with (first
      | (go_at_call 29; (with_reducible refine GH.out.mono ?_); rintro e w' ⟨rfl, rfl⟩)
      | (go_at_call 30; (with_reducible refine (GW.out _).mono ?_); rintro e w1 ⟨rfl, hx1⟩))
    go_returns
    exact ⟨rfl, hx1⟩
  case false =>
  rw [hh] at GH
  by_cases h200 : 200 < a.length
  · have h2i : (200 : Int) < (a.length : Int) := by omega
    clear hh h hl h200
    go_enter Try.func8, Try.ntmps8
    go_wp2_with (first
      | (go_at_call 29; (with_reducible refine GH.out.mono ?_); rintro e w' ⟨rfl, rfl⟩)
      | (go_at_call 30; (with_reducible refine (GW.out _).mono ?_); rintro e w1 ⟨rfl, hx1⟩))
    go_returns
    exact ⟨rfl, hx1⟩
  obtain ⟨hl80, hkey⟩ := heavyA_no hh
  have HKEY := Lib.hid hkey
  have HL := Lib.hid h
  have h2d : decide ((200 : Int) < (a.length : Int)) = false := by simp; omega
  have GFA := Lib.hid (fun W => full13 a W ha)
  have GNA := Lib.hid (fun W => new_any a W ha)
  have h1 : (padTo 32 a).length = 32 := padTo_length 32 _
  generalize padTo 32 a = ka at *
  have GN := Lib.hid (fun (W : World) (hx : Ext w W) => new_x ka w W h1 hx)
  have GND := Lib.hid (fun (W : World) => ref_ring_New ka W)
  have I1 := Lib.hid (ri_one ka h1)
  obtain ⟨len, hlen⟩ : ∃ len, l.length = len := ⟨_, rfl⟩
  rw [hlen] at GH hl80
  have HLEN := Lib.hid hlen
  rw [hlen]
  clear hh h hl hkey h1 hlen h200
  go_enter Try.func8, Try.ntmps8
  go_upto_region 4 with (first
    | (go_at_call 29; (with_reducible refine GH.out.mono ?_); rintro e w' ⟨rfl, rfl⟩)
    | (go_at_call 31; (with_reducible refine (GNA.out _).mono ?_); rintro e w1 ⟨p0, v0, rfl, hv0, hx1⟩; have HV := Lib.hid hv0; clear hv0))
  go_cut [50] from 37 to 50 (fun s50 wc => s50 = .bool false ∧ wc = w1)
  case first =>
    rcases HV.out with ⟨hv, h32⟩ | ⟨hv, h32⟩
    · have h32b : ((a.length : Int) == 32) = true := by simp; omega
      have hv1 : (v0 == 0) = true := by simp [hv]
      have hv2 : (v0 != 0) = false := by simp [hv]
      clear hv h32
      go_wp2_with fail
      all_goals go_meet
      all_goals exact ⟨by simp, rfl⟩
    · have h32b : ((a.length : Int) == 32) = false := by simp; omega
      have hv1 : (v0 == 0) = false := by simp [hv]
      have hv2 : (v0 != 0) = true := by simp [hv]
      have hv3 : (v0 != 2) = false := by simp [hv]
      clear hv h32
      go_wp2_with fail
      all_goals go_meet
      all_goals exact ⟨by simp, rfl⟩
  case rest =>
  obtain ⟨rfl, hwc⟩ := hcut
  subst hwc
  have HX := Lib.hid hx1
  clear hx1 GH GNA HV
  go_wp2_with (first
    | (go_at_call 26; (with_reducible refine (GFA.out _).mono ?_); rintro e w2 ⟨rfl, hx2⟩; have h1 := HX.out.trans hx2; clear HX hx2; have HX := Lib.hid h1; clear h1)
    | (go_at_call 31; (with_reducible refine (GN.out _ HX.out).mono ?_); rintro e w3 ⟨r, m, rfl, h1⟩; clear HX; have HR := Lib.hid h1; clear h1)
    | (go_at_call 26; (with_reducible refine (GFA.out _).mono ?_); rintro e w4 ⟨rfl, hx4⟩; have h1 := HR.out.next hx4; clear HR hx4; have HR := Lib.hid h1; clear h1)
    | (go_at_call 34; (with_reducible refine (GND.out _).mono ?_); rintro e w5 ⟨d, rfl, hd, hx5⟩; have HP : Hid (PL w r m d [(1, ka)] 1 [(1, ka)] w5) := Lib.hid ⟨HR.out.next hx5, hd.mono HR.out.ext.size⟩; clear HR hd hx5))
  go_loopg [12] len (fun k s12 wr => ∃ (i n : Nat) (E : Eps), s12 = .int .i64 (i : Int) ∧ i + k = len ∧ n ≤ i + 1 ∧ Hid (RI E n) ∧ Hid (PL w r m d E n E wr))
  case atStart => exact ⟨0, 1, _, rfl, by omega, by omega, I1, HP⟩
  case round =>
    obtain ⟨i, n, E, rfl, hik, hni, HI, HX⟩ := hrel
    clear HP I1 GN GND GFA
    cases gk with
    | zero =>
      obtain rfl : i = len := by omega
      have GK1 := Lib.hid (fun (W : World) (h : PL w r m d E n E W) => plR_key HI.out ask W h)
      have GK2 := Lib.hid (fun (W : World) (h : PL w r m d E n E W) => plD_key HI.out ask W h)
      obtain ⟨kr, hkr⟩ : ∃ kr, keyR E ask = kr := ⟨_, rfl⟩
      rw [hkr] at GK1 GK2
      clear hkr
      obtain ⟨x, y, z⟩ := kr
      dsimp only at GK1 GK2
      have GWT := Lib.hid (fun (W : World) (h : PL w r m d E n E W) => plW W h)
      go_wp2_with (first
        | (go_at_call 33; (with_reducible refine (GK1.out _ HX.out).mono ?_); rintro e w2 ⟨rfl, h1⟩; clear HX; have HX := Lib.hid h1; clear h1)
        | (go_at_call 38; (with_reducible refine (GK2.out _ HX.out).mono ?_); rintro e w2 ⟨rfl, h1⟩; clear HX; have HX := Lib.hid h1; clear h1)
        | (go_at_call 30; (with_reducible refine (GWT.out _ HX.out).mono ?_); rintro e w2 ⟨rfl, hx1⟩))
      go_returns
      exact ⟨by simp, hx1⟩
    | succ k =>
    have hil : i < len := by omega
    obtain ⟨b, o, rfl, hb, hat⟩ := HL.out i (by have := HLEN.out; omega)
    have hat2 := hat.ext HX.out.ring.ext
    have hkl := HKEY.out _ (List.getElem_mem (by have := HLEN.out; omega : i < l.length))
    obtain ⟨⟨go, ep, key, fit⟩, hx⟩ : ∃ x, l[i]'(by have := HLEN.out; omega) = x := ⟨_, rfl⟩
    rw [hx] at hat2 hkl hat
    have HAT := Lib.hid hat
    obtain ⟨c0, c1, c2, c3⟩ := hat2
    have hkl2 : key.length ≤ 200 := hkl
    clear hat hx hkl hb
    dsimp only at c0 c1 c2 c3
    have hn99 : n < 4294967295 := by omega
    go_upto_if 76 with fail
    go_cut [] from 66 to 127 (fun wc => ∃ (n2 : Nat) (E2 : Eps), n2 ≤ i + 2 ∧ Hid (RI E2 n2) ∧ Hid (PL w r m d E2 n2 E2 wc))
    case first =>
      cases go
      · go_upto_if 101 with fail
        go_cut [13] from 97 to 103 (fun s13 wc => ∃ key2 : List UInt8, s13 = .string (bs key2) ∧ key2.length ≤ 200 ∧ Hid (PL w r m d E n E wc))
        case first =>
          cases fit
          · go_wp2_with fail
            go_meet
            case rel => exact ⟨key, rfl, hkl2, HX⟩
          · have GF := Lib.hid (full13 key)
            have GK : (padTo 32 key).length ≤ 200 := by rw [padTo_length]; omega
            generalize padTo 32 key = key2 at *
            have hk1 : key.length ≤ 140737488351232 := by omega
            go_wp2_with (go_at_call 26; (with_reducible refine (GF.out _ hk1).mono ?_); rintro e w3 ⟨rfl, hx1⟩; have h2 := HX.out.next hx1; have HX2 := Lib.hid h2; clear h2 hx1)
            go_meet
            case rel => exact ⟨key2, rfl, GK, HX2⟩
        case rest =>
        clear HX c0 c1 c2 c3
        obtain ⟨key2, rfl, hk2, HX⟩ := hcut
        obtain ⟨v1, v2, E', n', hn', hI', hC, hD⟩ := pl_rotate w r m d HI.out hn99 key2 (by omega)
        unfold RotC at hC; unfold RotD at hD
        have GC := Lib.hid hC
        have GD := Lib.hid hD
        have HI2 := Lib.hid hI'
        clear hI' hC hD
        go_wp2_with (first
          | (go_at_call 25; (with_reducible refine (GC.out _ HX.out).mono ?_); rintro e w4 ⟨rfl, h1⟩; have HX3 := Lib.hid h1; clear h1)
          | (go_at_call 36; (with_reducible refine (GD.out _ HX3.out).mono ?_); rintro e w4 ⟨rfl, h1⟩; have HX4 := Lib.hid h1; clear h1))
        go_meet
        case rel => exact ⟨n', E', by omega, HI2, HX4⟩
      · obtain ⟨v, E', hI', hC, hD⟩ := pl_retire w r m d HI.out ep
        unfold RetC at hC; unfold RetD at hD
        have GC := Lib.hid hC
        have GD := Lib.hid hD
        have HI2 := Lib.hid hI'
        have c1w := HAT.out.2.1
        dsimp only at c1w
        clear hI' hC hD
        go_upto_region 14 with fail
        refine Loud.wp_region_loud (fun i => decide (i = 6 ∨ i = 13)) 15 (fun w' => Ext w w') (by kernel_rfl) (by kernel_rfl) HX.out.ring.ext.drew ?_
        simp only [List.take_succ_cons, List.take_zero]
        iterate 5 (refine Loud.lex_qe rfl rfl ?_; apply Exists.intro; refine ⟨fun wq hq => ?_, Loud.norm fun K hK => ?_⟩; (go_simp; try rfl); go_simp; refine hK _ ?_; clear hK K)
        refine Loud.lex_qe rfl rfl ?_; apply Exists.intro; refine ⟨fun wq hq => ?_, Loud.norm fun K hK => ?_⟩; (have hqc := hq.cell_of c1w; go_simp; try rfl); go_simp; refine hK _ ?_; clear hK K
        refine Loud.lex_l rfl rfl (fun K hK => ?_); go_simp; refine (GC.out _ (HX.out.next ((Ext.refl _).drew))).mono ?_; rintro e w4 ⟨rfl, h1⟩; refine ⟨_, rfl, ?_⟩; go_simp; refine hK _ _ h1.ring.ext ?_; clear hK K; have HX3 := Lib.hid h1; clear h1
        iterate 5 (refine Loud.lex_qe rfl rfl ?_; apply Exists.intro; refine ⟨fun wq hq => ?_, Loud.norm fun K hK => ?_⟩; (go_simp; try rfl); go_simp; refine hK _ ?_; clear hK K)
        refine Loud.lex_qe rfl rfl ?_; apply Exists.intro; refine ⟨fun wq hq => ?_, Loud.norm fun K hK => ?_⟩; (have hqc := hq.cell_of c1w; go_simp; try rfl); go_simp; refine hK _ ?_; clear hK K
        refine Loud.lex_l rfl rfl (fun K hK => ?_); go_simp; refine (GD.out _ HX3.out).mono ?_; rintro e w5 ⟨rfl, h1⟩; refine ⟨_, rfl, ?_⟩; go_simp; refine hK _ _ h1.ring.ext ?_; clear hK K; have HX4 := Lib.hid h1; clear h1
        iterate 1 (refine Loud.lex_qe rfl rfl ?_; apply Exists.intro; refine ⟨fun wq hq => ?_, Loud.norm fun K hK => ?_⟩; (go_simp; try rfl); go_simp; refine hK _ ?_; clear hK K)
        refine Loud.lex_nil ?_
        simp only [List.drop_succ_cons, List.drop_zero]
        go_wp2_with fail
        go_meet
        case rel => exact ⟨n, E', by omega, HI2, HX4⟩
    case rest =>
    clear HX HI c0 c1 c2 c3 hni
    obtain ⟨n2, E2, hn2, HI, HX⟩ := hcut
    have GS := Lib.hid (fun (W : World) (h : PL w r m d E2 n2 E2 W) => pl_same HI.out (by omega) W h)
    go_wp2_with (go_at_call 37; (with_reducible refine (GS.out _ HX.out).mono ?_); rintro e w6 ⟨rfl, h1⟩; have HX6 := Lib.hid h1; clear h1)
    go_roundg k
    case measure => omega
    case rel => exact ⟨i + 1, n2, E2, by go_num, by omega, by omega, HI, HX6⟩
end Go.Proofs.Ytbacamepmilmhaa
