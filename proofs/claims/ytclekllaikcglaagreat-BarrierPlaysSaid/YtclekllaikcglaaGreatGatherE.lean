import Derived.Test.YtclekllaikcglaaGreatShare
import Derived.Test.YtclekllaikcglaaGreatMap
import Derived.Test.YtclekllaikcglaaGreatBase

/- Contracts: layer 6, shares that are gathered (the program's). -/
namespace Go.Proofs.YtclekllaikcglaaGreat
open Go Go.RowKit
abbrev GS := List (Nat × Nat × List UInt8)
def gents (c : Nat) (l : GS) : Ents := l.zipIdx.map fun p => ((p.1.1 : Int), .string (bs p.1.2.2), c + p.2)
theorem gents_length (c : Nat) (l : GS) : (gents c l).length = l.length := by simp [gents]
theorem gents_snoc (c : Nat) (l : GS) (i n : Nat) (t : List UInt8) : gents c l ++ [((i : Int), .string (bs t), c + l.length)] = gents c (l ++ [(i, n, t)]) := by
  simp [gents, List.zipIdx_append]
theorem gents_born (c : Nat) : ∀ (l : GS), Born (gents c l) (c + l.length) := by
  intro l
  have : ∀ (m : GS), Born (gents c m.reverse) (c + m.reverse.length) := by
    intro m
    induction m with
    | nil => exact ⟨by simp [gents], by simp [gents]⟩
    | cons x m ih =>
      obtain ⟨i, n, t⟩ := x
      rw [List.reverse_cons, ← gents_snoc]
      have := ih.snoc (i : Int) (.string (bs t))
      simpa [Nat.add_assoc] using this
  have h := this l.reverse
  simpa using h
theorem gents_look (c : Nat) (l : GS) (i : Nat) : (lookM (gents c l) (i : Int)).isSome = l.any (fun x => x.1 == i) := by
  have : lookM (gents c l) (i : Int) = none ↔ l.any (fun x => x.1 == i) = false := by
    rw [lookM_none, List.any_eq_false]
    constructor
    · intro h x hx he
      obtain ⟨j, hj, rfl⟩ := List.mem_iff_getElem.1 hx
      refine h (((l[j].1 : Nat) : Int), .string (bs l[j].2.2), c + j) ?_ ?_
      · simp only [gents, List.mem_map]
        exact ⟨(l[j], j), by simp [List.mem_zipIdx_iff_getElem?, hj], rfl⟩
      · simp at he; simp [he]
    · intro h e he
      simp only [gents, List.mem_map] at he
      obtain ⟨⟨x, j⟩, hx, rfl⟩ := he
      have hm : x ∈ l := by
        have := List.mem_zipIdx hx
        rw [this.2.2]; exact List.getElem_mem _
      have := h x hm
      simp at this
      simp; omega
  cases hl : lookM (gents c l) (i : Int) with
  | none => simp [this.1 hl]
  | some v =>
    cases ha : l.any (fun x => x.1 == i) with
    | false => rw [this.2 ha] at hl; cases hl
    | true => rfl
def gcells (bm n size : Nat) : Array Value := #[.map (some bm), .int .i64 n, .int .i64 size]
def PG (w : World) (bg bm c : Nat) (l : GS) : Prop :=
  bg ≠ bm ∧ ∃ n size : Nat, n ≤ 16 ∧ size ≤ 64 ∧ w.heap[bg]? = some (.cells (gcells bm n size) 96) ∧ w.heap[bm]? = some (mobj .i64 (gents c l) (c + l.length)) ∧ ∀ x ∈ l, x.2.1 = n ∧ x.2.2.length = size
theorem PG.but {S : List Nat} {w w' : World} {bg bm c : Nat} {l : GS} (h : PG w bg bm c l) (hb : But S w w') (h1 : bg ∉ S) (h2 : bm ∉ S) : PG w' bg bm c l := by
  obtain ⟨hn, n, size, k1, k2, k3, k4, k5⟩ := h
  exact ⟨hn, n, size, k1, k2, hb.keep k3 h1, hb.keep k4 h2, k5⟩
theorem PG.ext {w w' : World} {bg bm c : Nat} {l : GS} (h : PG w bg bm c l) (hx : Ext w w') : PG w' bg bm c l := h.but (S := []) (But.of_ext hx) (by simp) (by simp)
theorem und_gm : Tryz.prog.underlying 94 = some (.map 3 9) := by kernel_rfl
theorem und_int : Tryz.prog.underlying 3 = some (.int .i64) := by kernel_rfl
theorem zero_str (w : World) : (zeroValue 9).run Tryz.prog w = .ok (.string { data := #[] }) w := by kernel_rfl
theorem gcell {w : World} {bg bm n size : Nat} (h : w.heap[bg]? = some (.cells (gcells bm n size) 96)) :
    bg < w.heap.size ∧ w.cell? ⟨bg, 0, none⟩ = some (.map (some bm)) ∧ w.cell? ⟨bg, 1, none⟩ = some (.int .i64 n) ∧ w.cell? ⟨bg, 2, none⟩ = some (.int .i64 size) ∧ w.frozen? ⟨bg, 1, none⟩ = false ∧ w.frozen? ⟨bg, 2, none⟩ = false :=
  ⟨blk_lt h, cell_blk h rfl, cell_blk h rfl, cell_blk h rfl, frozen_blk h, frozen_blk h⟩
set_option maxRecDepth 100000 in
set_option maxHeartbeats 1000000 in
theorem made_yes (w : World) (bg bm n size : Nat) (h : w.heap[bg]? = some (.cells (gcells bm n size) 96)) :
    Calls Tryz.prog 58 #[.pointer (some ⟨bg, 0, none⟩)] w fun e w' => e = .returned (.bool true) ∧ w = w' := by
  have c0 : w.cell? ⟨bg, 0, none⟩ = some (.map (some bm)) := cell_blk h rfl
  have hne : ∀ w : World, (binOp .neq 94 (.map (some bm)) (.map none)).run Tryz.prog w = .ok (.bool true) w := fun w => rfl
  clear h
  go_enter Tryz.func58, Tryz.ntmps58
  go_wp2
  go_returns
  exact ⟨rfl, rfl⟩
set_option maxRecDepth 100000 in
set_option maxHeartbeats 1000000 in
theorem New_any (w : World) :
    Calls Tryz.prog 26 #[] w fun e w' => ∃ bg bm, e = .returned (.pointer (some ⟨bg, 0, none⟩)) ∧ w.heap.size ≤ bg ∧ w.heap.size ≤ bm ∧ bg < w'.heap.size ∧ bm < w'.heap.size ∧ PG w' bg bm 0 [] ∧ Ext w w' := by
  have hmm := @run_makeMap Tryz.prog
  go_enter Tryz.func26, Tryz.ntmps26
  go_wp2
  go_returns
  refine ⟨w.heap.size + 1, w.heap.size, rfl, by omega, by omega, by simp, by simp; omega, ⟨by omega, 0, 0, by omega, by omega, ?_, ?_, by simp⟩, (by repeat (first | exact Ext.refl _ | assumption | (with_reducible refine Ext.drew ?_) | (with_reducible refine Ext.drewN ?_ _) | (with_reducible refine Ext.alloc ?_ _) | (refine Ext.trans ?_ (by assumption))))⟩
  · have hs : (w.alloc (Obj.map #[] 0)).heap.size = w.heap.size + 1 := by simp
    rw [← hs]; exact heap_alloc_new _ _
  · exact heap_alloc_old _ _ (heap_alloc_new _ _)
def addS (l : GS) (s : List UInt8) : Int × GS := match readS s with
  | none => (7, l)
  | some (i, n, t) => if l.any (fun x => x.2.1 != n || x.2.2.length != t.length) then (60, l) else if l.any (fun x => x.1 == i) then (8, l) else (0, l ++ [(i, n, t)])
theorem readS_some {s : List UInt8} {i n : Nat} {t : List UInt8} (h : readS s = some (i, n, t)) : 1 ≤ t.length ∧ t.length ≤ 64 ∧ 1 ≤ n ∧ n ≤ 16 ∧ 1 ≤ i ∧ i ≤ n := by
  unfold readS at h
  split at h
  · split at h
    · rename_i h'; simp only [Option.some.injEq, Prod.mk.injEq] at h; obtain ⟨rfl, rfl, rfl⟩ := h; exact h'
    · cases h
  · cases h
def AddPost (w : World) (bg bm c : Nat) (l : GS) (s : List UInt8) (e : Ending) (w' : World) : Prop :=
  e = .returned (.int .i64 (addS l s).1) ∧ PG w' bg bm c (addS l s).2 ∧ But [bg, bm] w w'
set_option maxRecDepth 100000 in
set_option maxHeartbeats 1000000 in
theorem Add_form (w : World) (bg bm c : Nat) (l : GS) (s : List UInt8) (hs : s.length ≤ 1099511627776) (h : PG w bg bm c l) (hr : readS s = none) :
    Calls Tryz.prog 34 #[.pointer (some ⟨bg, 0, none⟩), .string (bs s)] w (AddPost w bg bm c l s) := by
  have h' := h
  obtain ⟨hn, n, size, k1, k2, k3, k4, k5⟩ := h
  have c0 : w.cell? ⟨bg, 0, none⟩ = some (.map (some bm)) := cell_blk k3 rfl
  have hv : readV s = .tuple #[.int .i64 0, .int .i64 0, .string { data := #[] }, .int .i64 7] := by unfold readV; rw [hr]
  have G1 := Lib.hid (made_yes w bg bm n size k3)
  have G2 := Lib.hid (fun w => hv ▸ Read_any s w hs)
  have hp : addS l s = (7, l) := by unfold addS; rw [hr]
  have HP := Lib.hid hp
  have H' := Lib.hid h'
  clear h' k3 k4 k5 hp hv hr
  go_enter Tryz.func34, Tryz.ntmps34
  go_wp2_with (first
    | (go_at_call 58; with_reducible refine G1.out.mono ?_; rintro e w' ⟨rfl, rfl⟩)
    | (go_at_call 31; with_reducible refine (G2.out _).mono ?_; rintro e w1 ⟨rfl, hx1⟩))
  go_returns
  unfold AddPost
  rw [HP.out]
  exact ⟨rfl, H'.out.ext hx1, But.of_ext hx1⟩
set_option maxRecDepth 100000 in
set_option maxHeartbeats 1000000 in
theorem Add_first (w : World) (bg bm c : Nat) (s : List UInt8) (hs : s.length ≤ 1099511627776) (h : PG w bg bm c []) (i n : Nat) (t : List UInt8) (hr : readS s = some (i, n, t)) :
    Calls Tryz.prog 34 #[.pointer (some ⟨bg, 0, none⟩), .string (bs s)] w (AddPost w bg bm c [] s) := by
  obtain ⟨hn, n0, size0, k1, k2, k3, k4, k5⟩ := h
  obtain ⟨r1, r2, r3, r4, r5, r6⟩ := readS_some hr
  have hv : readV s = .tuple #[.int .i64 i, .int .i64 n, .string (bs t), .int .i64 0] := by unfold readV; rw [hr]
  have G1 := Lib.hid (made_yes w bg bm n0 size0 k3)
  have G2 := Lib.hid (fun w => hv ▸ Read_any s w hs)
  have hp : addS [] s = (0, [(i, n, t)]) := by unfold addS; rw [hr]; rfl
  have HP := Lib.hid hp
  have K3 := Lib.hid k3
  have K4 := Lib.hid k4
  have hbg := blk_lt k3
  have hn' : bm ≠ bg := fun e => hn e.symm
  clear k3 k4 k5 hp hv hr
  go_enter Tryz.func34, Tryz.ntmps34
  go_wp2_with (first
    | (go_at_call 58; with_reducible refine G1.out.mono ?_; rintro e w' ⟨rfl, rfl⟩)
    | (go_at_call 31; with_reducible refine (G2.out _).mono ?_; rintro e w1 ⟨rfl, hx1⟩; obtain ⟨cb, c0, c1, c2, cf1, cf2⟩ := gcell (hx1.keep K3.out))
    | (at_len; refine wpl_len rfl _ _ rfl und_gm bm _ _ rfl (hx1.keep K4.out) 0 rfl ?_)
    | (at_lookup; refine wpl_look rfl _ _ _ rfl und_gm und_int (zero_str _) bm _ _ rfl ((heap_setCell_other _ _ _ hn').trans ((heap_setCell_other _ _ _ hn').trans (hx1.keep K4.out))) _ rfl none rfl ?_)
    | (at_mapUpdate; refine wpl_put rfl _ _ _ _ rfl und_gm und_int bm _ _ rfl ((heap_setCell_other _ _ _ hn').trans ((heap_setCell_other _ _ _ hn').trans (hx1.keep K4.out))) (i : Int) rfl (.string (bs t)) rfl rfl ?_; intro w2 hw2
       have hB2 : But [bg, bm] w w2 := hw2 ▸ ((((But.of_ext hx1).setCell (Or.inl (by simp)) _).setCell (Or.inl (by simp)) _).setB (Or.inl (by simp)) _)
       have hP2 : PG w2 bg bm c [(i, n, t)] := by
         rw [hw2]
         refine ⟨hn, n, t.length, r4, r2, ?_, ?_, by simp⟩
         · rw [heap_setB_other _ _ _ hn, heap_setCell_same (i := 2) _ (heap_setCell_same (i := 1) _ (hx1.keep K3.out))]; rfl
         · rw [heap_setB_same _ ((heap_setCell_other _ _ _ hn').trans ((heap_setCell_other _ _ _ hn').trans (hx1.keep K4.out)))]
           show some (mobj .i64 (gents c [] ++ [((i : Int), .string (bs t), c + 0)]) (c + 0 + 1)) = _
           exact congrArg (fun L => some (mobj .i64 L (c + 1))) (gents_snoc c [] i n t)
       clear hw2))
  all_goals go_returns
  all_goals (unfold AddPost; rw [HP.out]; exact ⟨rfl, hP2, hB2⟩)
set_option maxRecDepth 100000 in
set_option maxHeartbeats 2000000 in
theorem Add_more (w : World) (bg bm c : Nat) (l : GS) (s : List UInt8) (hs : s.length ≤ 1099511627776) (hl : 0 < l.length) (hl2 : l.length ≤ 1048576) (h : PG w bg bm c l) (i n : Nat) (t : List UInt8) (hr : readS s = some (i, n, t)) :
    Calls Tryz.prog 34 #[.pointer (some ⟨bg, 0, none⟩), .string (bs s)] w (AddPost w bg bm c l s) := by
  have H' := Lib.hid h
  obtain ⟨hn, n0, size0, k1, k2, k3, k4, k5⟩ := h
  obtain ⟨r1, r2, r3, r4, r5, r6⟩ := readS_some hr
  have hv : readV s = .tuple #[.int .i64 i, .int .i64 n, .string (bs t), .int .i64 0] := by unfold readV; rw [hr]
  have G1 := Lib.hid (made_yes w bg bm n0 size0 k3)
  have G2 := Lib.hid (fun w => hv ▸ Read_any s w hs)
  have ha : l.any (fun x => x.2.1 != n || x.2.2.length != t.length) = (n0 != n || size0 != t.length) := by
    cases hb : (n0 != n || size0 != t.length) with
    | false =>
      rw [List.any_eq_false]; intro x hx
      obtain ⟨e1, e2⟩ := k5 x hx
      rw [e1, e2, hb]; simp
    | true =>
      rw [List.any_eq_true]
      refine ⟨l[0], List.getElem_mem hl, ?_⟩
      obtain ⟨e1, e2⟩ := k5 l[0] (List.getElem_mem hl)
      rw [e1, e2, hb]
  have hp : addS l s = if (n0 != n || size0 != t.length) then (60, l) else if l.any (fun x => x.1 == i) then (8, l) else (0, l ++ [(i, n, t)]) := by unfold addS; rw [hr]; simp only [ha]
  have hk := gents_look c l i
  have HP0 := Lib.hid hp
  have HK := Lib.hid hk
  have K3 := Lib.hid k3
  have K4 := Lib.hid k4
  have K5 := Lib.hid k5
  have hbg := blk_lt k3
  have hn' : bm ≠ bg := fun e => hn e.symm
  have hl0 : ((l.length : Int) == 0) = false := beq_eq_false_iff_ne.2 (by omega)
  clear k3 k4 k5 hp hv hr ha hk
  by_cases q1 : n0 = n
  · have t1 : ((n : Int) != (n0 : Int)) = false := by simp [q1]
    have b1 : (n0 != n) = false := by simp [q1]
    by_cases q2 : size0 = t.length
    · have t2 : ((t.length : Int) != (size0 : Int)) = false := by simp [q2]
      have b2 : (size0 != t.length) = false := by simp [q2]
      cases hk : l.any (fun x => x.1 == i) with
      | true =>
        have hp : addS l s = (8, l) := by rw [HP0.out, b1, b2, hk]; rfl
        obtain ⟨v, hv⟩ : ∃ v, lookM (gents c l) (i : Int) = some v := by
          have := HK.out; rw [hk] at this; exact Option.isSome_iff_exists.1 this
        have HP := Lib.hid hp
        have HV := Lib.hid hv
        clear hp hv hk q1 q2 b1 b2
        go_enter Tryz.func34, Tryz.ntmps34
        go_wp2_with (first
          | (go_at_call 58; with_reducible refine G1.out.mono ?_; rintro e w' ⟨rfl, rfl⟩)
          | (go_at_call 31; with_reducible refine (G2.out _).mono ?_; rintro e w1 ⟨rfl, hx1⟩; obtain ⟨cb, c0, c1, c2, cf1, cf2⟩ := gcell (hx1.keep K3.out))
          | (at_len; refine wpl_len rfl _ _ rfl und_gm bm _ _ rfl (hx1.keep K4.out) (l.length : Int) (by rw [gents_length]) ?_)
          | (at_lookup; refine wpl_look rfl _ _ _ rfl und_gm und_int (zero_str _) bm _ _ rfl (hx1.keep K4.out) (i : Int) rfl (some v) HV.out ?_))
        go_returns
        unfold AddPost
        rw [HP.out]
        exact ⟨rfl, H'.out.ext hx1, But.of_ext hx1⟩
      | false =>
        have hp : addS l s = (0, l ++ [(i, n, t)]) := by rw [HP0.out, b1, b2, hk]; rfl
        have hv : lookM (gents c l) (i : Int) = none := by
          have := HK.out; rw [hk] at this; exact Option.isSome_eq_false_iff.1 this |> Option.isNone_iff_eq_none.1
        have HP := Lib.hid hp
        have HV := Lib.hid hv
        have HQ1 := Lib.hid q1
        have HQ2 := Lib.hid q2
        clear hp hv hk q1 q2 b1 b2
        go_enter Tryz.func34, Tryz.ntmps34
        go_wp2_with (first
          | (go_at_call 58; with_reducible refine G1.out.mono ?_; rintro e w' ⟨rfl, rfl⟩)
          | (go_at_call 31; with_reducible refine (G2.out _).mono ?_; rintro e w1 ⟨rfl, hx1⟩; obtain ⟨cb, c0, c1, c2, cf1, cf2⟩ := gcell (hx1.keep K3.out))
          | (at_len; refine wpl_len rfl _ _ rfl und_gm bm _ _ rfl (hx1.keep K4.out) (l.length : Int) (by rw [gents_length]) ?_)
          | (at_lookup; refine wpl_look rfl _ _ _ rfl und_gm und_int (zero_str _) bm _ _ rfl (hx1.keep K4.out) (i : Int) rfl none HV.out ?_)
          | (at_mapUpdate; refine wpl_put rfl _ _ _ _ rfl und_gm und_int bm _ _ rfl (hx1.keep K4.out) (i : Int) rfl (.string (bs t)) rfl HV.out ?_; intro w2 hw2
             have hB2 : But [bg, bm] w w2 := hw2 ▸ ((But.of_ext hx1).setB (Or.inl (by simp)) _)
             have hP2 : PG w2 bg bm c (l ++ [(i, n, t)]) := by
               rw [hw2]
               refine ⟨hn, n0, size0, k1, k2, ?_, ?_, ?_⟩
               · rw [heap_setB_other _ _ _ hn]; exact hx1.keep K3.out
               · rw [heap_setB_same _ (hx1.keep K4.out), gents_snoc, List.length_append]; rfl
               · intro x hx
                 rcases List.mem_append.1 hx with hx | hx
                 · exact K5.out x hx
                 · simp at hx; subst hx; exact ⟨HQ1.out.symm, HQ2.out.symm⟩
             clear hw2))
        go_returns
        unfold AddPost
        rw [HP.out]
        exact ⟨rfl, hP2, hB2⟩
    · have t2 : ((t.length : Int) != (size0 : Int)) = true := by simp; omega
      have b2 : (size0 != t.length) = true := by simpa using q2
      have hp : addS l s = (60, l) := by rw [HP0.out, b1, b2]; rfl
      have HP := Lib.hid hp
      generalize hv : lookM (gents c l) (i : Int) = r
      have HV := Lib.hid hv
      clear hp hv q1 q2 b1 b2
      go_enter Tryz.func34, Tryz.ntmps34
      go_wp2_with (first
        | (go_at_call 58; with_reducible refine G1.out.mono ?_; rintro e w' ⟨rfl, rfl⟩)
        | (go_at_call 31; with_reducible refine (G2.out _).mono ?_; rintro e w1 ⟨rfl, hx1⟩; obtain ⟨cb, c0, c1, c2, cf1, cf2⟩ := gcell (hx1.keep K3.out))
        | (at_len; refine wpl_len rfl _ _ rfl und_gm bm _ _ rfl (hx1.keep K4.out) (l.length : Int) (by rw [gents_length]) ?_)
        | (at_lookup; refine wpl_look rfl _ _ _ rfl und_gm und_int (zero_str _) bm _ _ rfl (hx1.keep K4.out) (i : Int) rfl r HV.out ?_))
      go_returns
      unfold AddPost
      rw [HP.out]
      exact ⟨rfl, H'.out.ext hx1, But.of_ext hx1⟩
  · have t1 : ((n : Int) != (n0 : Int)) = true := by simp; omega
    have b1 : (n0 != n) = true := by simpa using q1
    have hp : addS l s = (60, l) := by rw [HP0.out, b1]; rfl
    have HP := Lib.hid hp
    generalize hv : lookM (gents c l) (i : Int) = r
    have HV := Lib.hid hv
    clear hp hv q1 b1
    go_enter Tryz.func34, Tryz.ntmps34
    go_wp2_with (first
      | (go_at_call 58; with_reducible refine G1.out.mono ?_; rintro e w' ⟨rfl, rfl⟩)
      | (go_at_call 31; with_reducible refine (G2.out _).mono ?_; rintro e w1 ⟨rfl, hx1⟩; obtain ⟨cb, c0, c1, c2, cf1, cf2⟩ := gcell (hx1.keep K3.out))
      | (at_len; refine wpl_len rfl _ _ rfl und_gm bm _ _ rfl (hx1.keep K4.out) (l.length : Int) (by rw [gents_length]) ?_)
      | (at_lookup; refine wpl_look rfl _ _ _ rfl und_gm und_int (zero_str _) bm _ _ rfl (hx1.keep K4.out) (i : Int) rfl r HV.out ?_))
    go_returns
    unfold AddPost
    rw [HP.out]
    exact ⟨rfl, H'.out.ext hx1, But.of_ext hx1⟩
theorem Add_any (w : World) (bg bm c : Nat) (l : GS) (s : List UInt8) (hs : s.length ≤ 1099511627776) (hl : l.length ≤ 1048576) (h : PG w bg bm c l) :
    Calls Tryz.prog 34 #[.pointer (some ⟨bg, 0, none⟩), .string (bs s)] w (AddPost w bg bm c l s) := by
  cases hr : readS s with
  | none => exact Add_form w bg bm c l s hs h hr
  | some r =>
    obtain ⟨i, n, t⟩ := r
    match l, h, hl with
    | [], h, _ => exact Add_first w bg bm c s hs h i n t hr
    | x :: l, h, hl => exact Add_more w bg bm c (x :: l) s hs (by simp) hl h i n t hr
def haveS (l : GS) : Nat × Nat := match l with
  | [] => (0, 0)
  | x :: _ => (l.length, x.2.1)
set_option maxRecDepth 100000 in
set_option maxHeartbeats 1000000 in
theorem Have_any (w : World) (bg bm c : Nat) (l : GS) (hl : l.length ≤ 1048576) (h : PG w bg bm c l) :
    Calls Tryz.prog 32 #[.pointer (some ⟨bg, 0, none⟩)] w fun e w' => e = .returned (.tuple #[.int .i64 (haveS l).1, .int .i64 (haveS l).2]) ∧ Ext w w' := by
  obtain ⟨hn, n, size, k1, k2, k3, k4, k5⟩ := h
  have G1 := Lib.hid (made_yes w bg bm n size k3)
  obtain ⟨cb, c0, c1, c2, cf1, cf2⟩ := gcell k3
  have K4 := Lib.hid k4
  have K5 := Lib.hid k5
  clear k3 k4 k5 cf1 cf2
  cases l with
  | nil =>
    have hln := run_lenM (P := Tryz.prog) und_gm K4.out 0 rfl 3
    go_enter Tryz.func32, Tryz.ntmps32
    go_wp2_with (go_at_call 58; with_reducible refine G1.out.mono ?_; rintro e w' ⟨rfl, rfl⟩)
    go_returns
    exact ⟨rfl, (by repeat (first | exact Ext.refl _ | assumption | (with_reducible refine Ext.drew ?_) | (with_reducible refine Ext.drewN ?_ _) | (with_reducible refine Ext.alloc ?_ _) | (refine Ext.trans ?_ (by assumption))))⟩
  | cons x l =>
    have hl0 : (((x :: l).length : Int) == 0) = false := beq_eq_false_iff_ne.2 (by simp only [List.length_cons]; omega)
    generalize hm : (((x :: l).length : Nat) : Int) = m at hl0
    have hln := run_lenM (P := Tryz.prog) und_gm K4.out m (by rw [gents_length]; exact hm) 3
    have hlq := fun n => run_lenM (P := Tryz.prog) (w := w.drewN n) und_gm K4.out m (by rw [gents_length]; exact hm) 3
    have hr : (haveS (x :: l)).1 = m ∧ (haveS (x :: l)).2 = n := ⟨hm, (K5.out x (by simp)).1⟩
    have HR := Lib.hid hr
    clear hm hr
    go_enter Tryz.func32, Tryz.ntmps32
    go_wp2_with (go_at_call 58; with_reducible refine G1.out.mono ?_; rintro e w' ⟨rfl, rfl⟩)
    go_quiet (fail)
    go_wp2
    go_returns
    rw [HR.out.1, HR.out.2]
    exact ⟨rfl, (by repeat (first | exact Ext.refl _ | assumption | (with_reducible refine Ext.drew ?_) | (with_reducible refine Ext.drewN ?_ _) | (with_reducible refine Ext.alloc ?_ _) | (refine Ext.trans ?_ (by assumption))))⟩
set_option maxRecDepth 100000 in
set_option maxHeartbeats 1000000 in
theorem Drop_any (w : World) (bg bm c : Nat) (l : GS) (h : PG w bg bm c l) :
    Calls Tryz.prog 36 #[.pointer (some ⟨bg, 0, none⟩)] w fun e w' => e = .returned (.tuple #[]) ∧ PG w' bg bm (c + l.length) [] ∧ But [bg, bm] w w' := by
  obtain ⟨hn, n, size, k1, k2, k3, k4, k5⟩ := h
  have G1 := Lib.hid (made_yes w bg bm n size k3)
  obtain ⟨cb, c0, c1, c2, cf1, cf2⟩ := gcell k3
  have K3 := Lib.hid k3
  have K4 := Lib.hid k4
  clear k3 k4 k5 cf1 cf2
  go_enter Tryz.func36, Tryz.ntmps36
  go_wp2_with (first
    | (go_at_call 58; with_reducible refine G1.out.mono ?_; rintro e w' ⟨rfl, rfl⟩)
    | (refine wpl_clear rfl _ _ rfl und_gm bm _ _ rfl K4.out ?_; intro w2 hw2
       have hB2 : But [bg, bm] w w2 := hw2 ▸ (But.refl _ _).setB (Or.inl (by simp)) _
       have hP2 : PG w2 bg bm (c + l.length) [] := by
         rw [hw2]
         refine ⟨hn, n, size, k1, k2, ?_, ?_, by simp⟩
         · rw [heap_setB_other _ _ _ hn]; exact K3.out
         · rw [heap_setB_same _ K4.out]; rfl
       clear hw2))
  go_returns
  exact ⟨rfl, hP2, hB2⟩
theorem xorL_swap (a b c : List UInt8) : xorL (xorL a b) c = xorL (xorL a c) b := by rw [xorL_assoc, xorL_comm b c, ← xorL_assoc]
theorem lastS_perm {l m : List (List UInt8)} (h : l.Perm m) : ∀ a, lastS a l = lastS a m := by
  unfold lastS
  induction h with
  | nil => intro a; rfl
  | cons x _ ih => intro a; exact ih _
  | swap x y l => intro a; simp only [List.foldl_cons]; rw [xorL_swap]
  | trans _ _ h1 h2 => intro a; rw [h1, h2]
theorem lastS_snoc (a : List UInt8) (l : List (List UInt8)) (s : List UInt8) : lastS a (l ++ [s]) = xorL (lastS a l) s := by simp [lastS, List.foldl_append]
theorem sub_length {α : Type} [DecidableEq α] : ∀ (l m : List α), l.Nodup → (∀ x ∈ l, x ∈ m) → l.length ≤ m.length
  | [], _, _, _ => by simp
  | x :: l, m, h, hs => by
    rw [List.nodup_cons] at h
    have hx := hs x (by simp)
    have ih := sub_length l (m.erase x) h.2 (fun y hy => (List.mem_erase_of_ne (fun e => h.1 (by rw [← e]; exact hy))).2 (hs y (by simp [hy])))
    rw [List.length_erase_of_mem hx] at ih
    have : 0 < m.length := List.length_pos_of_mem hx
    simp only [List.length_cons]; omega
def unV : Value → List UInt8
  | .string b => b.data.toList
  | _ => []
theorem unV_str (l : List UInt8) : unV (.string (bs l)) = l := by simp [unV]
theorem gents_mem {c : Nat} {l : GS} {e : Int × Value × Nat} (h : e ∈ gents c l) : ∃ x ∈ l, e.2.1 = .string (bs x.2.2) := by
  simp only [gents, List.mem_map] at h
  obtain ⟨⟨x, j⟩, hx, rfl⟩ := h
  have := List.mem_zipIdx hx
  exact ⟨x, by rw [this.2.2]; exact List.getElem_mem _, rfl⟩
theorem gents_texts (c : Nat) (l : GS) : (gents c l).map (fun e => unV e.2.1) = l.map (·.2.2) := by
  simp only [gents, List.map_map]
  have : ((fun e : Int × Value × Nat => unV e.2.1) ∘ fun p : (Nat × Nat × List UInt8) × Nat => ((p.1.1 : Int), Value.string (bs p.1.2.2), c + p.2)) = (fun x : Nat × Nat × List UInt8 => x.2.2) ∘ Prod.fst := by
    funext p; simp [unV]
  rw [this, ← List.map_map]; simp
def secretS (l : GS) : Option (List UInt8) := match l with
  | [] => none
  | x :: m => if l.length < x.2.1 then none else some (lastS x.2.2 (m.map (·.2.2)))
def secretV (r : Option (List UInt8)) : Value := match r with
  | none => .tuple #[.string { data := #[] }, .bool false]
  | some s => .tuple #[.string (bs s), .bool true]
def doneN (w : World) (r : Nat) : Nat := match w.heap[r]? with
  | some (.mapIter _ _ seen _) => seen.size
  | _ => 0
theorem doneN_eq {w : World} {r b clk : Nat} {done : Ents} (h : w.heap[r]? = some (iter b clk done)) : doneN w r = done.length := by simp [doneN, h, iter]
set_option maxRecDepth 100000 in
set_option maxHeartbeats 1000000 in
theorem Secret_none (w : World) (bg bm c : Nat) (l : GS) (hl : l.length ≤ 1048576) (h : PG w bg bm c l) (hs : secretS l = none) :
    Calls Tryz.prog 35 #[.pointer (some ⟨bg, 0, none⟩)] w fun e w' => e = .returned (secretV (secretS l)) ∧ Ext w w' := by
  rw [hs]
  have G1 := Have_any w bg bm c l hl h
  match l, hs, hl, G1 with
  | [], _, _, G1 =>
    have G1 : Calls Tryz.prog 32 #[.pointer (some ⟨bg, 0, none⟩)] w fun e w' => e = .returned (.tuple #[.int .i64 0, .int .i64 0]) ∧ Ext w w' := G1
    have G1 := Lib.hid G1
    go_enter Tryz.func35, Tryz.ntmps35
    go_wp2_with (go_at_call 32; with_reducible refine G1.out.mono ?_; rintro e w1 ⟨rfl, hx1⟩)
    go_returns
    exact ⟨rfl, hx1⟩
  | x :: m, hs, hl, G1 =>
    have hlt : ((x :: m).length : Int) < (x.2.1 : Int) := by
      simp only [secretS] at hs
      split at hs
      · rename_i h; exact Int.ofNat_lt.2 h
      · cases hs
    have G1 : Calls Tryz.prog 32 #[.pointer (some ⟨bg, 0, none⟩)] w fun e w' => e = .returned (.tuple #[.int .i64 ((x :: m).length : Int), .int .i64 (x.2.1 : Int)]) ∧ Ext w w' := G1
    have hp : (0 : Int) < ((x :: m).length : Int) := by simp only [List.length_cons]; omega
    generalize ((x :: m).length : Int) = a at hlt G1 hp
    generalize (x.2.1 : Int) = b at hlt G1
    have G1 := Lib.hid G1
    have ha : (a == 0) = false := beq_eq_false_iff_ne.2 (by omega)
    go_enter Tryz.func35, Tryz.ntmps35
    go_wp2_with (go_at_call 32; with_reducible refine G1.out.mono ?_; rintro e w1 ⟨rfl, hx1⟩)
    go_returns
    exact ⟨rfl, hx1⟩
theorem zeros_xorL : ∀ (n : Nat) (t : List UInt8), t.length = n → xorL (List.replicate n 0) t = t
  | 0, [], _ => rfl
  | n + 1, x :: t, h => by
    have ih := zeros_xorL n t (by simpa using h)
    unfold xorL at ih ⊢
    rw [List.replicate_succ, List.zipWith_cons_cons, ih]
    simp [x8]
set_option maxRecDepth 100000 in
set_option maxHeartbeats 1000000 in
theorem Secret_some (w : World) (bg bm c : Nat) (x : Nat × Nat × List UInt8) (m : GS) (hl : (x :: m).length ≤ 1048576) (h : PG w bg bm c (x :: m)) (hs : ¬ (x :: m).length < x.2.1) :
    Calls Tryz.prog 35 #[.pointer (some ⟨bg, 0, none⟩)] w fun e w' => e = .returned (.tuple #[.string (bs (lastS x.2.2 (m.map (·.2.2)))), .bool true]) ∧ Ext w w' := by
  have G1 := Have_any w bg bm c (x :: m) hl h
  have G1 : Calls Tryz.prog 32 #[.pointer (some ⟨bg, 0, none⟩)] w fun e w' => e = .returned (.tuple #[.int .i64 ((x :: m).length : Int), .int .i64 (x.2.1 : Int)]) ∧ Ext w w' := G1
  have hlt : (x.2.1 : Int) ≤ ((x :: m).length : Int) := Int.ofNat_le.2 (by omega)
  have hp : (0 : Int) < ((x :: m).length : Int) := by simp only [List.length_cons]; omega
  generalize ((x :: m).length : Int) = a at hlt G1 hp
  generalize (x.2.1 : Int) = b at hlt G1
  have G1 := Lib.hid G1
  have ha : (a == 0) = false := beq_eq_false_iff_ne.2 (by omega)
  obtain ⟨hn, n, size, k1, k2, k3, k4, k5⟩ := h
  have hfin : ∀ done : Ents, done.Perm (gents c (x :: m)) → lastS (List.replicate size 0) (done.map (fun e => unV e.2.1)) = lastS x.2.2 (m.map (·.2.2)) := by
    intro done hd
    rw [lastS_perm (hd.map _), gents_texts]
    show lastS (xorL (List.replicate size 0) x.2.2) _ = _
    rw [zeros_xorL _ _ (k5 x (by simp)).2]
  have hborn := gents_born c (x :: m)
  have hlen : ∀ e ∈ gents c (x :: m), ∃ t, e.2.1 = .string (bs t) ∧ t.length = size := by
    intro e he
    obtain ⟨y, hy, h⟩ := gents_mem he
    exact ⟨_, h, (k5 y hy).2⟩
  generalize hL : gents c (x :: m) = L at k4 hfin hborn hlen
  generalize c + (x :: m).length = clk at k4 hborn
  generalize lastS x.2.2 (m.map (·.2.2)) = res at hfin
  have K3 := Lib.hid k3; have K4 := Lib.hid k4; have HF := Lib.hid hfin; have HB := Lib.hid hborn; have HLEN := Lib.hid hlen
  have hbm := blk_lt k4
  have hmk := mk_bytes size (by omega)
  have kc := fun w c T => to_str_new w size c T (List.replicate size 0) (by simp)
  clear k3 k4 k5 hfin hborn hlen hL hl hs
  go_enter Tryz.func35, Tryz.ntmps35
  go_wp2_with (first
    | (go_at_call 32; with_reducible refine G1.out.mono ?_; rintro e w1 ⟨rfl, hx1⟩; obtain ⟨cb, c0, c1, c2, -, -⟩ := gcell (hx1.keep K3.out); have hb1 := hx1.size)
    | (at_range; refine wpl_range rfl _ _ rfl und_gm bm _ _ rfl (Ext.keep (Ext.alloc hx1 _) K4.out) ?_))
  go_frame
  have hr : (w1.alloc (.cells (bcells (List.replicate size 0)) 5)).heap.size = w1.heap.size + 1 := by simp
  have HR := Lib.hid hr
  clear hr
  simp only [HR.out]
  go_loopw [6] (fun o wr => ∃ done : Ents, o = .string (bs (lastS (List.replicate size 0) (done.map (fun e => unV e.2.1)))) ∧ (done.map (·.2.2)).Nodup ∧ (∀ e ∈ done, e ∈ L) ∧ wr.heap[w1.heap.size + 1]? = some (iter bm clk done) ∧ Ext w wr) (fun _ wr => L.length - doneN wr (w1.heap.size + 1))
  case atStart => exact ⟨[], rfl, by simp, by simp, by rw [← HR.out]; exact heap_alloc_new _ _, (hx1.alloc _).alloc _⟩
  case round =>
    obtain ⟨done, rfl, hnd, hsub, hit, hx⟩ := hrel
    have hll : (lastS (List.replicate size 0) (done.map (fun e => unV e.2.1))).length = size := by
      rw [lastS_length _ _ (by
        intro s hs
        obtain ⟨e, he, rfl⟩ := List.mem_map.1 hs
        obtain ⟨t, h1, h2⟩ := HLEN.out e (hsub e he)
        rw [h1, unV_str, h2]; simp)]
      simp
    have HN := Lib.hid hnd; have HS := Lib.hid hsub; have HI := Lib.hid hit; have HLL := Lib.hid hll
    clear hnd hsub hit hll
    go_wp2_with (first
      | (at_next; refine wpl_next rfl _ rfl (q := .i64) (w1.heap.size + 1) bm L done clk rfl HI.out (hx.keep K4.out) HB.out HN.out HS.out ?hEnd ?hMore
         case' hEnd =>
           intro hperm
           have hf := HF.out done hperm
           have HFF := Lib.hid hf
           clear hf hperm
           rewrite [HFF.out]
         case' hMore =>
           intro e w2 heL hnd2 hit2 hbut hsz2
           obtain ⟨tx, htx, htl⟩ := HLEN.out e heL
           have hX := Xor_yes (lastS (List.replicate size 0) (done.map (fun e => unV e.2.1))) tx
           have GX := Lib.hid (fun w => hX w (HLL.out.trans htl.symm) (by rw [HLL.out]; omega))
           have hx2 : Ext w w2 := But.ext hx hbut (by simp; omega)
           have HN2 := Lib.hid hnd2; have HI2 := Lib.hid hit2; have HEL := Lib.hid heL; have HTX := Lib.hid htx; have HTL := Lib.hid htl
           clear hnd2 hit2 heL hX htx htl hsz2 hbut)
      | (refine wpl_entry rfl _ rfl (q := .i64) (w1.heap.size + 1) bm L done e clk rfl HI2.out (hx2.keep K4.out) HB.out HEL.out ?_; rewrite [HTX.out])
      | (go_at_call 56; with_reducible refine (GX.out _).mono ?_; rintro e w3 ⟨rfl, hx3⟩))
    all_goals first
      | (go_returns; exact ⟨rfl, hx⟩)
      | (have hsub2 : ∀ y ∈ done ++ [e], y ∈ L := by
           intro y hy
           rcases List.mem_append.1 hy with hy | hy
           · exact HS.out y hy
           · simp at hy; rw [hy]; exact HEL.out
         have hle := sub_length _ _ HN2.out (fun b hb => by
           obtain ⟨y, hy, rfl⟩ := List.mem_map.1 hb
           exact List.mem_map_of_mem (f := fun e : Int × Value × Nat => e.2.2) (hsub2 y hy))
         have hI3 := hx3.keep HI2.out
         refine ⟨⟨done ++ [e], ?_, HN2.out, hsub2, hI3, hx2.trans hx3⟩, ?_⟩
         · rw [List.map_append, List.map_cons, List.map_nil, HTX.out, unV_str, lastS_snoc]
         · rw [doneN_eq hI3, doneN_eq HI.out]
           simp only [List.length_append, List.length_map, List.length_cons, List.length_nil] at hle ⊢
           omega)
theorem Secret_any (w : World) (bg bm c : Nat) (l : GS) (hl : l.length ≤ 1048576) (h : PG w bg bm c l) :
    Calls Tryz.prog 35 #[.pointer (some ⟨bg, 0, none⟩)] w fun e w' => e = .returned (secretV (secretS l)) ∧ Ext w w' := by
  cases hs : secretS l with
  | none => rw [← hs]; exact Secret_none w bg bm c l hl h hs
  | some r =>
    match l, hs, hl, h with
    | x :: m, hs, hl, h =>
      simp only [secretS] at hs
      split at hs
      · cases hs
      · rename_i hn
        cases hs
        exact Secret_some w bg bm c x m hl h hn
end Go.Proofs.YtclekllaikcglaaGreat

/- Plain facts of layer 6: all shares are the secret, in whatever order. -/
namespace Go.Proofs.YtclekllaikcglaaGreat
open Go Go.RowKit
def parts (m : Nat) (U : List (List UInt8)) : GS := U.zipIdx.map fun p => (p.2 + 1, m, p.1)
def got (m : Nat) (U : List (List UInt8)) (k i : Nat) : GS := ((parts m U).take i).eraseIdx k
theorem add_new {gs : GS} {s t : List UInt8} {i m q : Nat} (hr : readS s = some (i, m, t)) (ht : t.length = q) (h : ∀ x ∈ gs, x.2.1 = m ∧ x.2.2.length = q ∧ x.1 ≠ i) : addS gs s = (0, gs ++ [(i, m, t)]) := by
 unfold addS
 rw [hr]
 have h1 : gs.any (fun x => x.2.1 != m || x.2.2.length != t.length) = false := by
  rw [List.any_eq_false]; intro x hx; obtain ⟨a, b, _⟩ := h x hx; simp [a, b, ht]
 have h2 : gs.any (fun x => x.1 == i) = false := by
  rw [List.any_eq_false]; intro x hx; obtain ⟨_, _, c⟩ := h x hx; simp [c]
 simp only [h1, h2]; rfl
theorem secretS_full {n q : Nat} : ∀ (l : GS), (∀ x ∈ l, x.2.1 = n ∧ x.2.2.length = q) → l ≠ [] → n ≤ l.length → secretS l = some (lastS (List.replicate q 0) (l.map (·.2.2)))
 | [], _, h, _ => absurd rfl h
 | x :: m, h, _, hn => by
  obtain ⟨h1, h2⟩ := h x (by simp)
  simp only [secretS]
  rw [if_neg (by omega)]
  show some _ = some (lastS (xorL (List.replicate q 0) x.2.2) _)
  rw [zeros_xorL _ _ h2]
theorem secretS_less {n : Nat} : ∀ (l : GS), (∀ x ∈ l, x.2.1 = n) → l.length < n → secretS l = none
 | [], _, _ => rfl
 | x :: m, h, hn => by
  have h1 := h x (by simp)
  simp only [secretS]
  rw [if_pos (by omega)]
theorem lastS_xor (a : List UInt8) : ∀ (T : List (List UInt8)) (b : List UInt8), lastS (xorL a b) T = xorL a (lastS b T)
 | [], b => rfl
 | s :: T, b => by
  have ih := lastS_xor a T (xorL b s)
  show lastS (xorL (xorL a b) s) T = _
  rw [xorL_assoc, ih]; rfl
theorem lastS_len (q : Nat) (T : List (List UInt8)) (b : List UInt8) (hb : b.length = q) (h : ∀ x ∈ T, x.length = q) : (lastS b T).length = q := by
 rw [lastS_length b T (fun x hx => by rw [hb]; exact h x hx), hb]
theorem all_secret (q : Nat) (secret : List UInt8) (T : List (List UInt8)) (hs : secret.length = q) (h : ∀ x ∈ T, x.length = q) : lastS (List.replicate q 0) (T ++ [lastS secret T]) = secret := by
 have hz : (List.replicate q (0 : UInt8)).length = q := by simp
 have e : lastS secret T = xorL secret (lastS (List.replicate q 0) T) := by
  have := lastS_xor secret T (List.replicate q 0)
  rwa [xorL_comm secret, zeros_xorL q secret hs] at this
 rw [lastS_snoc, e, xorL_comm]
 exact xorL_back _ _ (by rw [hs, lastS_len q T _ hz h])
end Go.Proofs.YtclekllaikcglaaGreat

/- Contracts: layer 6, the document's gatherer, as a part of a block. -/
namespace Go.Proofs.YtclekllaikcglaaGreat
open Go Go.RowKit
theorem info_share : (Tryz.prog.info? 119).map (fun i => (i.zero, i.size, i.bytes)) = some (some (.agg #[.int .i64 0, .int .i64 0, .string { data := #[] }]), 3, 32) := by kernel_rfl
theorem und_shares : Tryz.prog.underlying 59 = some (.slice 119) := by kernel_rfl
def gval (x : Nat × Nat × List UInt8) : List Value := [.int .i64 x.1, .int .i64 x.2.1, .string (bs x.2.2)]
def gvals (l : GS) : List Value := l.flatMap gval
theorem gvals_snoc (l : GS) (x : Nat × Nat × List UInt8) : gvals (l ++ [x]) = gvals l ++ gval x := by simp [gvals]
theorem gvals_at : ∀ (l : GS) (i j : Nat) (_ : i < l.length) (_ : j < 3), (gvals l)[i * 3 + j]? = (gval l[i])[j]?
 | x :: l, 0, j, _, hj => by
  have : gvals (x :: l) = gval x ++ gvals l := by simp [gvals]
  rw [this, List.getElem?_append_left (by simp [gval]; omega)]; simp
 | x :: l, i + 1, j, hi, hj => by
  have ih := gvals_at l i j (by simpa using hi) hj
  have : gvals (x :: l) = gval x ++ gvals l := by simp [gvals]
  rw [this, List.getElem?_append_right (by simp [gval]; omega)]
  have e : (i + 1) * 3 + j - (gval x).length = i * 3 + j := by simp [gval]; omega
  rw [e, ih]; simp
def Sh (w : World) (v : Value) (l : GS) : Prop :=
 ∃ ad cap, v = .slice ad l.length cap ∧ ∀ i (hi : i < l.length), ∃ b, ad = some ⟨b, 0, none⟩ ∧ b < w.heap.size ∧ w.cell? ⟨b, i * 3, none⟩ = some (.int .i64 l[i].1) ∧ w.cell? ⟨b, i * 3 + 1, none⟩ = some (.int .i64 l[i].2.1) ∧ w.cell? ⟨b, i * 3 + 2, none⟩ = some (.string (bs l[i].2.2))
theorem Sh.ext {w w' : World} {v : Value} {l : GS} (h : Sh w v l) (hx : Ext w w') : Sh w' v l := by
 obtain ⟨ad, cap, hv, hc⟩ := h
 refine ⟨ad, cap, hv, fun i hi => ?_⟩
 obtain ⟨b, ha, hb, h0, h1, h2⟩ := hc i hi
 exact ⟨b, ha, Nat.lt_of_lt_of_le hb hx.size, hx.cell_of h0, hx.cell_of h1, hx.cell_of h2⟩
theorem Sh.of_row {w : World} {B : Nat} {v : Value} {l : GS} (h : w.ownsRow B 119 3 v l.length (gvals l)) : Sh w v l := by
 rcases h.2 with ⟨rfl, h2⟩ | ⟨g, cap, cur, rfl, hg, hh, h3, h4, h5, h6⟩
 ·exact ⟨none, 0, by rw [h2], fun i hi => absurd hi (by omega)⟩
 ·refine ⟨_, cap, rfl, fun i hi => ⟨g, rfl, blk_lt hh, ?_⟩⟩
  have hc : ∀ j, j < 3 → w.cell? ⟨g, i * 3 + j, none⟩ = (gval l[i])[j]? := by
   intro j hj
   have e := gvals_at l i j hi hj
   rw [← h6, List.getElem?_take, if_pos (by omega)] at e
   rw [← e]
   have : ∃ u, (gval l[i])[j]? = some u := ⟨(gval l[i])[j]'(by simp [gval]; omega), List.getElem?_eq_getElem _⟩
   obtain ⟨u, hu⟩ := this
   rw [hu] at e
   rw [e]
   exact cell_blk hh (by simpa using e)
  exact ⟨hc 0 (by omega), hc 1 (by omega), hc 2 (by omega)⟩
def RGi (w : World) (B br off : Nat) (cs : Array Value) (T : TypeId) (l : GS) : Prop :=
 B ≤ br ∧ off < cs.size ∧ 119 ≠ T ∧ ∃ v, w.heap[br]? = some (.cells (cs.setIfInBounds off v) T) ∧ w.ownsRow B 119 3 v l.length (gvals l) ∧ v.ownBlock ≠ some br
theorem cs_at {cs : Array Value} {off : Nat} {v : Value} (h : off < cs.size) : (cs.setIfInBounds off v)[off]? = some v := by simp [h]
theorem cs_twice (cs : Array Value) (off : Nat) (u v : Value) : (cs.setIfInBounds off u).setIfInBounds off v = cs.setIfInBounds off v := by simp
def KeepsG (br : Nat) (w w' : World) : Prop := ∀ k o, w.heap[k]? = some o → k ≠ br → (∀ cs fz, o ≠ .cells cs 119 fz) → w'.heap[k]? = some o
theorem keepsG_ext {br : Nat} {w w' : World} (h : Ext w w') : KeepsG br w w' := fun k o hk _ _ => h.keep hk
theorem own_keep {w w' : World} {B size : Nat} {e : TypeId} {v : Value} {n : Nat} {xs : List Value} (h : w.ownsRow B e size v n xs) (hb : ∀ k, v.ownBlock = some k → w'.heap[k]? = w.heap[k]?) : w'.ownsRow B e size v n xs := by
 obtain ⟨h1, h2⟩ := h
 refine ⟨h1, ?_⟩
 rcases h2 with h2 | ⟨g, cap, cur, hv, hg, hh, r⟩
 ·exact Or.inl h2
 ·exact Or.inr ⟨g, cap, cur, hv, hg, by rw [hb g (by subst hv; rfl)]; exact hh, r⟩
theorem RGi.ext {w w' : World} {B br off : Nat} {cs : Array Value} {T : TypeId} {l : GS} (h : RGi w B br off cs T l) (hx : Ext w w') : RGi w' B br off cs T l := by
 obtain ⟨hB, ho, hT, v, h1, h2, h3⟩ := h
 exact ⟨hB, ho, hT, v, hx.keep h1, own_keep h2 (fun k hk => hx.block (World.ownsRow.lt h2 k hk).2), h3⟩
theorem lex_append {P : Program} {ops : Array Oper} {C : World → Prop} {L : Nat → Bool} {F : Act → World → Prop} {o : Oper} {l : List Oper} {i : Nat} {a : Act} {w : World} (hg : Region.wanted o (yielded ops a.tmps) = true) (hL : L i = true) (s x : Operand) (t : TypeId)
  (ho : o.op = .call { callee := .builtin .append, args := #[s, x], argTypes := #[t, t] }) {e size bytes : Nat} {z : Value}
  (ht : P.underlying t = some (.slice e)) (hinfo : (P.info? e).map (fun i => (i.zero, i.size, i.bytes)) = some (some z, size, bytes)) (hz : z.cells.size = size) (hsz : 0 < size) (hby : 0 < bytes)
  (B : Nat) (hB : B ≤ w.heap.size) (v : Value) (k : Nat) (xs : List Value) (hs : a.eval s = v) (hown : w.ownsRow B e size v k xs)
  (ad : Addr) (m c : Nat) (news : List Value) (hx : a.eval x = .slice (some ad) m c) (hm : news.length = m * size) (hnews : ∀ j u, news[j]? = some u → w.cell? (ad.add j) = some u) (h1 : ∀ u ∈ news, u.oneCell' = true)
  (hlen : (k + m) * bytes ≤ 140737488355328)
  (h : ∀ v' w', w'.ownsRow B e size v' (k + m) (xs ++ news) → w.grownBy w' v.ownBlock → C w' ∧ Loud.wpLex P ops C L F l (i + 1) (a.put o.dst v') w') : Loud.wpLex P ops C L F (o :: l) i a w := by
 obtain ⟨i0, hi, hz0, hz1, hz2⟩ := info_parts hinfo
 have h63 : k + m ≤ maxLen := by
  have : k + m ≤ (k + m) * bytes := Nat.le_mul_of_pos_right _ hby
  unfold maxLen; omega
 obtain ⟨v', w', hr, h2, h3, _⟩ := run_append_own (P := P) w B t o.type e i0 z size bytes ht hi hz0 hz1 hz2 hz hsz v k xs hown ad m c news hm hnews h1 h63 hlen hB
 obtain ⟨h4, h5⟩ := h v' w' h2 h3
 refine Loud.lex_v hg hL v' w' ?_ h4 h5
 unfold execOp
 simp only [ho, resolve, invoke, builtin, Sem.run_bind, Sem.run_pure, Result.andThen_ok, List.map_toArray, List.map_cons, List.map_nil, hs, hx, hr]
theorem grown_trans {a b c : World} {r : Option Nat} (h : a.grownBy b r) (k : b.grownBy c r) : a.grownBy c r :=
 ⟨k.os.trans h.os, k.tape.trans h.tape, k.output.trans h.output, Nat.le_trans h.size k.size, fun i hi hs => (k.block i (Nat.lt_of_lt_of_le hi h.size) hs).trans (h.block i hi hs)⟩
theorem grown_drew (w : World) (r : Option Nat) : w.grownBy w.drew r := ⟨rfl, rfl, rfl, Nat.le_refl _, fun _ _ _ => rfl⟩
theorem grown_below {w w' : World} {r : Option Nat} (h : w.grownBy w' r) {B : Nat} (hB : B ≤ w.heap.size) (hr : ∀ k, r = some k → B ≤ k) : Below B w w' := (Below.refl B w).grown h hB hr
theorem cells_three (w : World) (u v x : Value) (t : TypeId) : ∀ j y, [u, v, x][j]? = some y → (w.alloc (.cells #[u, v, x] t)).cell? ((⟨w.heap.size, 0, none⟩ : Addr).add j) = some y := by
 intro j y h
 have := heap_alloc_new w (.cells #[u, v, x] t)
 have := cell_blk (i := j) (w := w.alloc (.cells #[u, v, x] t)) this (by simpa using h)
 rw [show ((⟨w.heap.size, 0, none⟩ : Addr).add j) = ⟨w.heap.size, j, none⟩ by simp [Addr.add]; omega]
 exact this
theorem own_other {w : World} {B size : Nat} {e T : TypeId} {v : Value} {n b : Nat} {xs : List Value} {cs : Array Value} {fz : Nat × Nat} (h : w.ownsRow B e size v n xs) (hb : w.heap[b]? = some (.cells cs T fz)) (hne : e ≠ T) : v.ownBlock ≠ some b := by
 intro ho
 rcases h.2 with ⟨rfl, _⟩ | ⟨g, cap, cur, rfl, _, hh, _⟩
 ·cases ho
 ·obtain rfl : g = b := by simpa [Value.ownBlock] using ho
  rw [hb] at hh
  simp only [Option.some.injEq, Obj.cells.injEq] at hh
  exact hne hh.2.1.symm
theorem own_lookG {w : World} {B size : Nat} {e : TypeId} {v : Value} {n : Nat} {xs : List Value} (h : w.ownsRow B e size v n xs) : ∃ ad cap, v = .slice ad n cap := by
 rcases h.2 with ⟨rfl, rfl⟩ | ⟨g, cap, cur, hv, _⟩
 ·exact ⟨_, _, rfl⟩
 ·exact ⟨_, _, hv⟩
def RAddPost (w : World) (B br off : Nat) (cs : Array Value) (T : TypeId) (l : GS) (s : List UInt8) (e : Ending) (w' : World) : Prop :=
 e = .returned (.int .i64 (addS l s).1) ∧ RGi w' B br off cs T (addS l s).2 ∧ Below B w w' ∧ KeepsG br w w'
set_option maxRecDepth 100000 in
set_option maxHeartbeats 1000000 in
theorem RAdd_form (w : World) (B br off : Nat) (cs : Array Value) (T : TypeId) (l : GS) (s : List UInt8) (hs : s.length ≤ 1099511627776) (hB : B ≤ w.heap.size) (h : RGi w B br off cs T l) (hr : readS s = none) :
  Calls Tryz.prog 75 #[.pointer (some ⟨br, off, none⟩), .string (bs s)] w (RAddPost w B br off cs T l s) := by
 have hv : refReadV s = .tuple #[.agg #[.int .i64 0, .int .i64 0, .string { data := #[] }], .int .i64 7] := by unfold refReadV; rw [hr]; rfl
 have G2 := Lib.hid (fun w => hv ▸ RefRead_any s w hs)
 have hp : addS l s = (7, l) := by unfold addS; rw [hr]
 have HP := Lib.hid hp
 have H' := Lib.hid h
 clear h hp hv hr
 go_enter Tryz.func75, Tryz.ntmps75
 go_wp2_with (first
  | (go_at_call 100; with_reducible refine (G2.out _).mono ?_; rintro e w1 ⟨rfl, hw1⟩))
 go_returns
 unfold RAddPost
 rw [HP.out]
 exact ⟨rfl, H'.out.ext (hw1.alloc _), (hw1.alloc _).mono hB, keepsG_ext (hw1.alloc _)⟩
theorem any_take {α : Type} (p : α → Bool) (l : List α) (k : Nat) (hk : k < l.length) (h : (l.take k).any p = false) (hp : p l[k] = false) : (l.take (k + 1)).any p = false := by
 rw [List.take_succ_eq_append_getElem hk, List.any_append, h]; simp [hp]
theorem any_at {α : Type} (p : α → Bool) (l : List α) (k : Nat) (hk : k < l.length) (hp : p l[k] = true) : l.any p = true := List.any_eq_true.2 ⟨_, List.getElem_mem hk, hp⟩
set_option maxRecDepth 100000 in
set_option maxHeartbeats 1000000 in
theorem RAdd_some (w : World) (B br off : Nat) (cs : Array Value) (T : TypeId) (l : GS) (s : List UInt8) (hs : s.length ≤ 1099511627776) (hl : l.length ≤ 1048576) (hB : B ≤ w.heap.size) (hll : ∀ x ∈ l, x.2.2.length ≤ 64) (h : RGi w B br off cs T l) (i n : Nat) (t : List UInt8) (hr : readS s = some (i, n, t)) :
  Calls Tryz.prog 75 #[.pointer (some ⟨br, off, none⟩), .string (bs s)] w (RAddPost w B br off cs T l s) := by
 obtain ⟨r1, r2, r3, r4, r5, r6⟩ := readS_some hr
 have hv : refReadV s = .tuple #[.agg #[.int .i64 i, .int .i64 n, .string (bs t)], .int .i64 0] := by unfold refReadV; rw [hr]; rfl
 have G2 := Lib.hid (fun w => hv ▸ RefRead_any s w hs)
 have hp : addS l s = if l.any (fun x => x.2.1 != n || x.2.2.length != t.length) then (60, l) else if l.any (fun x => x.1 == i) then (8, l) else (0, l ++ [(i, n, t)]) := by unfold addS; rw [hr]
 have HP := Lib.hid hp
 have H' := Lib.hid h
 have HLL := Lib.hid hll
 obtain ⟨hbr, hoff, hT, v, k1, k2, k3⟩ := h
 obtain ⟨ad, cap, rfl, hc⟩ := Sh.of_row k2
 have HC := Lib.hid (show Sh w (.slice ad l.length cap) l from ⟨ad, cap, rfl, hc⟩)
 have K1 := Lib.hid k1; have K2 := Lib.hid k2; have K3 := Lib.hid k3
 have c0 : w.cell? ⟨br, off, none⟩ = some (.slice ad l.length cap) := cell_blk k1 (cs_at hoff)
 have hbl := blk_lt k1
 clear hll hp hv hr k1 k2 k3 hc
 go_enter Tryz.func75, Tryz.ntmps75
 go_wp2_with (first
  | (go_at_call 100; with_reducible refine (G2.out _).mono ?_; rintro e w1 ⟨rfl, hw1⟩))
 have hx2 := hw1.alloc (.cells #[.int .i64 i, .int .i64 n, .string (bs t)] 119)
 have hn2 := heap_alloc_new w1 (.cells #[.int .i64 i, .int .i64 n, .string (bs t)] 119)
 have hz2 := hx2.size
 have e2 : (w1.alloc (.cells #[.int .i64 i, .int .i64 n, .string (bs t)] 119)).heap.size = w1.heap.size + 1 := by simp
 generalize w1.alloc (.cells #[.int .i64 i, .int .i64 n, .string (bs t)] 119) = w2 at hx2 hn2 hz2 e2
 have hz1 := hw1.size
 generalize w1.heap.size = bx at hn2 e2 hz1
 have N2 := Lib.hid hn2
 clear hn2
 go_loopw [7] (fun o wr => ∃ k : Nat, k ≤ l.length ∧ o = .int .i64 k ∧ (l.take k).any (fun x => x.2.1 != n || x.2.2.length != t.length) = false ∧ Ext w2 wr) (fun o _ => l.length - (intOf o).toNat)
 case atStart => exact ⟨0, by omega, rfl, rfl, Ext.refl _⟩
 case round =>
  obtain ⟨k, hk, rfl, hany, hx⟩ := hrel
  have HA := Lib.hid hany
  clear hany
  have cc := (hx2.trans hx).cell_of c0
  have x0 : wr.cell? ⟨bx, 0, none⟩ = some (.int .i64 i) := hx.cell_of (cell_blk N2.out rfl)
  have x1 : wr.cell? ⟨bx, 1, none⟩ = some (.int .i64 n) := hx.cell_of (cell_blk N2.out rfl)
  have x2 : wr.cell? ⟨bx, 2, none⟩ = some (.string (bs t)) := hx.cell_of (cell_blk N2.out rfl)
  by_cases hlt : k < l.length
  ·obtain ⟨_, _, e', hc⟩ := HC.out.ext (hx2.trans hx)
   obtain ⟨b, ha, hb, y0, y1, y2⟩ := hc k hlt
   cases e'
   subst ha
   have hll : l[k].2.2.length ≤ 64 := HLL.out _ (List.getElem_mem hlt)
   by_cases hn : l[k].2.1 = n
   ·have hne : ((l[k].2.1 : Int) != (n : Int)) = false := by simp [hn]
    by_cases ht : l[k].2.2.length = t.length
    ·have hte : ((l[k].2.2.length : Int) != (t.length : Int)) = false := by simp [ht]
     have ha2 := any_take (fun x : Nat × Nat × List UInt8 => x.2.1 != n || x.2.2.length != t.length) l k hlt HA.out (by simp [hn, ht])
     have HA2 := Lib.hid ha2
     clear ha2 hc hn ht
     go_wp2
     go_quiet (fail)
     go_wp2
     go_roundw
     case measure => simp [intOf]; omega
     case rel => exact ⟨k + 1, by omega, by go_num, HA2.out, (by repeat (first | exact Ext.refl _ | assumption | (with_reducible refine Ext.drew ?_) | (with_reducible refine Ext.drewN ?_ _) | (with_reducible refine Ext.alloc ?_ _) | (refine Ext.trans ?_ (by assumption))))⟩
    ·have hte : ((l[k].2.2.length : Int) != (t.length : Int)) = true := by simp; omega
     have hp : addS l s = (60, l) := by rw [HP.out, any_at (fun x : Nat × Nat × List UInt8 => x.2.1 != n || x.2.2.length != t.length) l k hlt (by simp [ht])]; rfl
     have HPP := Lib.hid hp
     clear hc hn ht hp
     go_wp2
     go_quiet (fail)
     go_wp2
     go_returns
     unfold RAddPost
     rw [HPP.out]
     have hq := hx2.trans hx
     exact ⟨rfl, H'.out.ext (by repeat (first | exact Ext.refl _ | assumption | (with_reducible refine Ext.drew ?_) | (with_reducible refine Ext.drewN ?_ _) | (with_reducible refine Ext.alloc ?_ _) | (refine Ext.trans ?_ (by assumption)))), (show Ext _ _ from (by repeat (first | exact Ext.refl _ | assumption | (with_reducible refine Ext.drew ?_) | (with_reducible refine Ext.drewN ?_ _) | (with_reducible refine Ext.alloc ?_ _) | (refine Ext.trans ?_ (by assumption))))).mono hB, keepsG_ext (show Ext _ _ from (by repeat (first | exact Ext.refl _ | assumption | (with_reducible refine Ext.drew ?_) | (with_reducible refine Ext.drewN ?_ _) | (with_reducible refine Ext.alloc ?_ _) | (refine Ext.trans ?_ (by assumption)))))⟩
   ·have hne : ((l[k].2.1 : Int) != (n : Int)) = true := by simp; omega
    have hp : addS l s = (60, l) := by rw [HP.out, any_at (fun x : Nat × Nat × List UInt8 => x.2.1 != n || x.2.2.length != t.length) l k hlt (by simp [hn])]; rfl
    have HPP := Lib.hid hp
    clear hc hn hp
    go_wp2
    go_quiet (fail)
    go_wp2
    go_returns
    unfold RAddPost
    rw [HPP.out]
    have hq := hx2.trans hx
    exact ⟨rfl, H'.out.ext (by repeat (first | exact Ext.refl _ | assumption | (with_reducible refine Ext.drew ?_) | (with_reducible refine Ext.drewN ?_ _) | (with_reducible refine Ext.alloc ?_ _) | (refine Ext.trans ?_ (by assumption)))), (show Ext _ _ from (by repeat (first | exact Ext.refl _ | assumption | (with_reducible refine Ext.drew ?_) | (with_reducible refine Ext.drewN ?_ _) | (with_reducible refine Ext.alloc ?_ _) | (refine Ext.trans ?_ (by assumption))))).mono hB, keepsG_ext (show Ext _ _ from (by repeat (first | exact Ext.refl _ | assumption | (with_reducible refine Ext.drew ?_) | (with_reducible refine Ext.drewN ?_ _) | (with_reducible refine Ext.alloc ?_ _) | (refine Ext.trans ?_ (by assumption)))))⟩
  ·obtain rfl : k = l.length := by omega
   have hp : addS l s = if l.any (fun x => x.1 == i) then (8, l) else (0, l ++ [(i, n, t)]) := by
    have hany := HA.out
    rw [List.take_length] at hany
    rw [HP.out, hany]; rfl
   have HPP := Lib.hid hp
   have hx3 := hx2.trans hx
   have HX := Lib.hid hx
   clear hp x0 x1 x2
   go_wp2
   obtain ⟨wo, rfl⟩ : ∃ x, x = wr := ⟨_, rfl⟩
   go_loopw [8] (fun o wr => ∃ k : Nat, k ≤ l.length ∧ o = .int .i64 k ∧ (l.take k).any (fun x => x.1 == i) = false ∧ Ext wo wr) (fun o _ => l.length - (intOf o).toNat)
   case atStart => exact ⟨0, by omega, rfl, rfl, Ext.refl _⟩
   case round =>
    obtain ⟨k, hk, rfl, hany, hx⟩ := hrel
    have HA := Lib.hid hany
    have hx4 := hx3.trans hx
    have cc := hx4.cell_of c0
    have N3 := Lib.hid (hx.keep (HX.out.keep N2.out))
    have x0 : wr.cell? ⟨bx, 0, none⟩ = some (.int .i64 i) := cell_blk N3.out rfl
    have x1 : wr.cell? ⟨bx, 1, none⟩ = some (.int .i64 n) := cell_blk N3.out rfl
    have x2 : wr.cell? ⟨bx, 2, none⟩ = some (.string (bs t)) := cell_blk N3.out rfl
    by_cases hlt : k < l.length
    ·obtain ⟨_, _, e', hc⟩ := HC.out.ext hx4
     obtain ⟨b, ha, hb, y0, y1, y2⟩ := hc k hlt
     cases e'
     subst ha
     by_cases hn : l[k].1 = i
     ·have hne : ((l[k].1 : Int) == (i : Int)) = true := by simp [hn]
      have hp : addS l s = (8, l) := by rw [HPP.out, any_at (fun x : Nat × Nat × List UInt8 => x.1 == i) l k hlt (by simp [hn])]; rfl
      have HPQ := Lib.hid hp
      clear hc hn hp
      go_wp2
      go_quiet (fail)
      go_wp2
      go_returns
      unfold RAddPost
      rw [HPQ.out]
      exact ⟨rfl, H'.out.ext (by repeat (first | exact Ext.refl _ | assumption | (with_reducible refine Ext.drew ?_) | (with_reducible refine Ext.drewN ?_ _) | (with_reducible refine Ext.alloc ?_ _) | (refine Ext.trans ?_ (by assumption)))), (show Ext _ _ from (by repeat (first | exact Ext.refl _ | assumption | (with_reducible refine Ext.drew ?_) | (with_reducible refine Ext.drewN ?_ _) | (with_reducible refine Ext.alloc ?_ _) | (refine Ext.trans ?_ (by assumption))))).mono hB, keepsG_ext (show Ext _ _ from (by repeat (first | exact Ext.refl _ | assumption | (with_reducible refine Ext.drew ?_) | (with_reducible refine Ext.drewN ?_ _) | (with_reducible refine Ext.alloc ?_ _) | (refine Ext.trans ?_ (by assumption)))))⟩
     ·have hne : ((l[k].1 : Int) == (i : Int)) = false := beq_eq_false_iff_ne.2 (by omega)
      have ha2 := any_take (fun x : Nat × Nat × List UInt8 => x.1 == i) l k hlt HA.out (by simp [hn])
      have HA2 := Lib.hid ha2
      clear ha2 hc hn
      go_wp2
      go_quiet (fail)
      go_wp2
      go_roundw
      case measure => simp [intOf]; omega
      case rel => exact ⟨k + 1, by omega, by go_num, HA2.out, (by repeat (first | exact Ext.refl _ | assumption | (with_reducible refine Ext.drew ?_) | (with_reducible refine Ext.drewN ?_ _) | (with_reducible refine Ext.alloc ?_ _) | (refine Ext.trans ?_ (by assumption))))⟩
    ·obtain rfl : k = l.length := by omega
     have hp : addS l s = (0, l ++ [(i, n, t)]) := by
      have hany := HA.out
      rw [List.take_length] at hany
      rw [HPP.out, hany]; rfl
     have HPQ := Lib.hid hp
     clear hp hany
     have hown := World.ownsRow.lt K2.out
     have hsz3 := hx4.size
     have nx : some bx ≠ (Value.slice ad l.length cap).ownBlock := fun e => by have := hown bx e.symm; omega
     have hcq : ∀ wq, wr.grownBy wq (Value.slice ad l.length cap).ownBlock → wq.cell? ⟨br, off, none⟩ = some (.slice ad l.length cap) := fun wq hq => hq.cell cc (fun e => K3.out e.symm)
     have q0 : ∀ wq, wr.grownBy wq (Value.slice ad l.length cap).ownBlock → wq.cell? ⟨bx, 0, none⟩ = some (.int .i64 i) := fun wq hq => hq.cell x0 nx
     have q1 : ∀ wq, wr.grownBy wq (Value.slice ad l.length cap).ownBlock → wq.cell? ⟨bx, 1, none⟩ = some (.int .i64 n) := fun wq hq => hq.cell x1 nx
     have q2 : ∀ wq, wr.grownBy wq (Value.slice ad l.length cap).ownBlock → wq.cell? ⟨bx, 2, none⟩ = some (.string (bs t)) := fun wq hq => hq.cell x2 nx
     go_wp2
     refine Loud.wp_region_loud (fun i => decide (i = 6 ∨ i = 7)) 8 (fun w' => wr.grownBy w' (Value.slice ad l.length cap).ownBlock) (by kernel_rfl) (by kernel_rfl) (grown_drew _ _) ?_
     simp only [List.take_succ_cons, List.take_zero]
     iterate 6 (refine Loud.lex_qe rfl rfl ?_; apply Exists.intro; refine ⟨fun wq hq => ?_, Loud.norm fun K hK => ?_⟩; (go_simp; try rfl); go_simp; refine hK _ ?_; clear hK K)
     refine Loud.lex_l rfl rfl (fun K hK => ?_); go_simp; refine hK _ _ (grown_trans (grown_drew _ _) (World.grownBy_alloc _ _ _)) ?_; clear hK K
     have k2' : (wr.drew.alloc (.cells #[.int .i64 i, .int .i64 n, .string (bs t)] 119)).ownsRow B 119 3 (.slice ad l.length cap) l.length (gvals l) :=
      own_keep K2.out (fun k hk => ((hx4.drew.alloc _)).block (World.ownsRow.lt K2.out k hk).2)
     refine lex_append rfl rfl _ _ 59 rfl und_shares info_share rfl (by omega) (by omega) B (by simp; omega) _ l.length (gvals l) rfl k2' ⟨wr.heap.size, 0, none⟩ 1 1 (gval (i, n, t)) rfl rfl (cells_three wr.drew _ _ _ _) (by simp [gval, Value.oneCell']) (by omega) ?_
     intro v' w3 hrow3 hg3
     obtain ⟨ad2, cap2, rfl⟩ := own_lookG hrow3
     have hg3' : wr.grownBy w3 (Value.slice ad l.length cap).ownBlock := grown_trans (grown_trans (grown_drew _ _) (World.grownBy_alloc _ _ _)) hg3
     refine ⟨hg3', ?_⟩
     have k13 : w3.heap[br]? = some (.cells (cs.setIfInBounds off (.slice ad l.length cap)) T) := by
      rw [hg3'.block br (by omega) (fun e => K3.out e.symm)]
      exact hx4.keep K1.out
     have hlt3 := blk_lt k13
     have hfz3 := frozen_blk (i := off) k13
     have cc3 : w3.cell? ⟨br, off, none⟩ = some (.slice ad l.length cap) := cell_blk k13 (cs_at hoff)
     have HG3 := Lib.hid hg3'
     have HR3 := Lib.hid hrow3
     have K13 := Lib.hid k13
     clear hg3 hg3' hrow3 k13
     refine Loud.lex_nil ?_
     simp only [List.drop_succ_cons, List.drop_zero]
     go_wp2
     go_returns
     unfold RAddPost
     rw [HPQ.out]
     have ho2 : (Value.slice ad2 (l.length + 1) cap2).ownBlock ≠ some br := own_other HR3.out K13.out hT
     refine ⟨rfl, ⟨hbr, hoff, hT, _, by have := heap_setCell_same (i := off) (Value.slice ad2 (l.length + 1) cap2) K13.out; rwa [cs_twice] at this, ?_, ho2⟩, ?_, ?_⟩
     ·have h := own_keep HR3.out (w' := w3.setCell ⟨br, off, none⟩ (.slice ad2 (l.length + 1) cap2)) (fun k hk => heap_setCell_other _ _ _ (fun e => ho2 (by rw [hk, e])))
      simpa [gvals_snoc] using h
     ·have hb1 := grown_below HG3.out (B := B) (by omega) (fun k hk => (hown k hk).1)
      exact Below.setCell (Below.trans (hx4.mono hB) hb1) hbr _
     ·intro k o hk hkb hnt
      rw [heap_setCell_other _ _ _ hkb]
      have hkr := hx4.keep hk
      refine (HG3.out.block k (blk_lt hkr) (fun e => ?_)).trans hkr
      rcases K2.out.2 with ⟨hv, _⟩ | ⟨g, _, cur, hv, _, hh, _⟩
      ·rw [hv] at e; simp [Value.ownBlock] at e
      ·rw [hv] at e
       simp only [Value.ownBlock, Option.some.injEq] at e
       subst e
       rw [hk] at hh
       injection hh with hh
       exact hnt _ _ hh
theorem RAdd_any (w : World) (B br off : Nat) (cs : Array Value) (T : TypeId) (l : GS) (s : List UInt8) (hs : s.length ≤ 1099511627776) (hl : l.length ≤ 1048576) (hB : B ≤ w.heap.size) (hll : ∀ x ∈ l, x.2.2.length ≤ 64) (h : RGi w B br off cs T l) :
  Calls Tryz.prog 75 #[.pointer (some ⟨br, off, none⟩), .string (bs s)] w (RAddPost w B br off cs T l s) := by
 cases hr : readS s with
 | none => exact RAdd_form w B br off cs T l s hs hB h hr
 | some r =>
  obtain ⟨i, n, t⟩ := r
  exact RAdd_some w B br off cs T l s hs hl hB hll h i n t hr
set_option maxRecDepth 100000 in
set_option maxHeartbeats 1000000 in
theorem RSecret_nil (w : World) (B br off : Nat) (cs : Array Value) (T : TypeId) (h : RGi w B br off cs T []) :
  Calls Tryz.prog 76 #[.pointer (some ⟨br, off, none⟩)] w fun e w' => e = .returned (.string (bs [])) ∧ Ext w w' := by
 obtain ⟨hbr, hoff, hT, v, k1, k2, k3⟩ := h
 obtain ⟨ad, cap, rfl, hc⟩ := Sh.of_row k2
 have c0 : w.cell? ⟨br, off, none⟩ = some (.slice ad 0 cap) := cell_blk k1 (cs_at hoff)
 clear k1 k2 k3 hc
 go_enter Tryz.func76, Tryz.ntmps76
 go_wp2
 go_quiet (fail)
 go_wp2
 go_returns
 exact ⟨rfl, (by repeat (first | exact Ext.refl _ | assumption | (with_reducible refine Ext.drew ?_) | (with_reducible refine Ext.drewN ?_ _) | (with_reducible refine Ext.alloc ?_ _) | (refine Ext.trans ?_ (by assumption))))⟩
set_option maxRecDepth 100000 in
set_option maxHeartbeats 1000000 in
theorem RSecret_less (w : World) (B br off : Nat) (cs : Array Value) (T : TypeId) (x : Nat × Nat × List UInt8) (m : GS) (h : RGi w B br off cs T (x :: m)) (hs : (x :: m).length < x.2.1) :
  Calls Tryz.prog 76 #[.pointer (some ⟨br, off, none⟩)] w fun e w' => e = .returned (.string (bs [])) ∧ Ext w w' := by
 obtain ⟨hbr, hoff, hT, v, k1, k2, k3⟩ := h
 obtain ⟨ad, cap, rfl, hc⟩ := Sh.of_row k2
 obtain ⟨b, rfl, hb, y0, y1, y2⟩ := hc 0 (by simp)
 have c0 : w.cell? ⟨br, off, none⟩ = some (.slice (some ⟨b, 0, none⟩) (x :: m).length cap) := cell_blk k1 (cs_at hoff)
 have y1 : w.cell? ⟨b, 1, none⟩ = some (.int .i64 x.2.1) := y1
 have hne : (((x :: m).length : Int) == 0) = false := beq_eq_false_iff_ne.2 (by simp only [List.length_cons]; omega)
 have hp : 0 < (x :: m).length := by simp
 clear k1 k2 k3 hc y0 y2
 generalize (x :: m).length = a at *
 have hlt : ((a : Int) < (x.2.1 : Int)) := by omega
 clear hs
 go_enter Tryz.func76, Tryz.ntmps76
 go_wp2
 go_quiet (fail)
 go_wp2
 go_returns
 exact ⟨rfl, (by repeat (first | exact Ext.refl _ | assumption | (with_reducible refine Ext.drew ?_) | (with_reducible refine Ext.drewN ?_ _) | (with_reducible refine Ext.alloc ?_ _) | (refine Ext.trans ?_ (by assumption))))⟩
set_option maxRecDepth 100000 in
set_option maxHeartbeats 1000000 in
theorem RSecret_some (w : World) (B br off : Nat) (cs : Array Value) (T : TypeId) (x : Nat × Nat × List UInt8) (m : GS) (hl : (x :: m).length ≤ 1048576) (h : RGi w B br off cs T (x :: m)) (hs : ¬ (x :: m).length < x.2.1) (hll : ∀ y ∈ m, y.2.2.length = x.2.2.length) (hx64 : x.2.2.length ≤ 64) :
  Calls Tryz.prog 76 #[.pointer (some ⟨br, off, none⟩)] w fun e w' => e = .returned (.string (bs (lastS x.2.2 (m.map (·.2.2))))) ∧ Ext w w' := by
 obtain ⟨hbr, hoff, hT, v, k1, k2, k3⟩ := h
 obtain ⟨ad, cap, rfl, hc⟩ := Sh.of_row k2
 have HC := Lib.hid (show Sh w (.slice ad (x :: m).length cap) (x :: m) from ⟨ad, cap, rfl, hc⟩)
 obtain ⟨b, rfl, hb, y0, y1, y2⟩ := hc 0 (by simp)
 have c0 : w.cell? ⟨br, off, none⟩ = some (.slice (some ⟨b, 0, none⟩) (x :: m).length cap) := cell_blk k1 (cs_at hoff)
 have y1 : w.cell? ⟨b, 1, none⟩ = some (.int .i64 x.2.1) := y1
 have y2 : w.cell? ⟨b, 2, none⟩ = some (.string (bs x.2.2)) := y2
 have hlen : (x :: m).length = m.length + 1 := rfl
 have hne : (((m.length : Int) + 1) == 0) = false := beq_eq_false_iff_ne.2 (by omega)
 have hp : 0 < m.length + 1 := by omega
 have hget : ∀ k (hk : k < m.length), (x :: m)[k + 1]'(by simp; omega) = m[k] := fun k hk => rfl
 have hg2 : ∀ k (hk : k < m.length), (m.map (·.2.2))[k]'(by simpa using hk) = m[k].2.2 := fun k hk => by simp
 rw [hlen] at hl hs HC c0
 have hlt : ((x.2.1 : Int) ≤ (m.length : Int) + 1) := by omega
 clear k1 k2 k3 hc y0 hlen
 have HM := Lib.hid hll
 clear hs hll
 go_enter Tryz.func76, Tryz.ntmps76
 go_wp2
 go_quiet (fail)
 go_wp2
 go_loopw [3, 4] (fun o i wr => ∃ k : Nat, k ≤ m.length ∧ i = .int .i64 ((k : Int) + 1) ∧ o = .string (bs (lastS x.2.2 ((m.map (·.2.2)).take k))) ∧ Ext w wr) (fun _ i _ => m.length + 1 - (intOf i).toNat)
 case atStart => exact ⟨0, by omega, rfl, rfl, (by repeat (first | exact Ext.refl _ | assumption | (with_reducible refine Ext.drew ?_) | (with_reducible refine Ext.drewN ?_ _) | (with_reducible refine Ext.alloc ?_ _) | (refine Ext.trans ?_ (by assumption))))⟩
 case round =>
  obtain ⟨k, hk, rfl, rfl, hx⟩ := hrel
  have hll := lastS_length x.2.2 ((m.map (·.2.2)).take k) (fun s hs => by
   obtain ⟨y, hy, rfl⟩ := List.mem_map.1 (List.mem_of_mem_take hs)
   exact HM.out y hy)
  have cc := hx.cell_of c0
  by_cases hlt : k < m.length
  ·obtain ⟨_, _, e', hc⟩ := HC.out.ext hx
   obtain ⟨b', hb', hbb, z0, z1, z2⟩ := hc (k + 1) (by simp; omega)
   cases e'
   cases hb'
   rw [hget k hlt] at z2
   have hkl : m[k].2.2.length = x.2.2.length := HM.out _ (List.getElem_mem hlt)
   have GX := Lib.hid (fun w => RefXor_any (lastS x.2.2 ((m.map (·.2.2)).take k)) m[k].2.2 w (by rw [hll, hkl]) (by rw [hll]; omega))
   have hst := lastS_take x.2.2 (m.map (·.2.2)) k (by simpa using hlt)
   rw [hg2 k hlt] at hst
   have HST := Lib.hid hst
   clear hst hc z0 z1 hll hkl
   go_wp2_with (go_at_call 101; with_reducible refine (GX.out _).mono ?_; rintro e w1 ⟨rfl, hx1⟩)
   go_roundw
   case measure => simp [intOf]; omega
   case rel => exact ⟨k + 1, by omega, by go_num, by rw [HST.out], hx.trans hx1⟩
  ·obtain rfl : k = m.length := by omega
   have hfin : (m.map (·.2.2)).take m.length = m.map (·.2.2) := by rw [List.take_of_length_le (by simp)]
   rw [hfin]
   go_wp2
   go_returns
   exact ⟨rfl, hx⟩
theorem RSecret_any (w : World) (B br off : Nat) (cs : Array Value) (T : TypeId) (l : GS) (hl : l.length ≤ 1048576) (h : RGi w B br off cs T l) (n size : Nat) (hs : size ≤ 64) (hall : ∀ x ∈ l, x.2.1 = n ∧ x.2.2.length = size) :
  Calls Tryz.prog 76 #[.pointer (some ⟨br, off, none⟩)] w fun e w' => e = .returned (.string (bs ((secretS l).getD []))) ∧ Ext w w' := by
 match l, h, hl, hall with
 | [], h, _, _ => exact RSecret_nil w B br off cs T h
 | x :: m, h, hl, hall =>
  simp only [secretS]
  split
  ·rename_i hlt; exact RSecret_less w B br off cs T x m h hlt
  ·rename_i hlt
   have hx := (hall x (by simp)).2
   exact RSecret_some w B br off cs T x m hl h hlt (fun y hy => by rw [hx, (hall y (by simp [hy])).2]) (by omega)
end Go.Proofs.YtclekllaikcglaaGreat
