/- Contracts: layer 6, shares that are gathered (the program's). -/
import Derived.Test.YtclekllaikcglaaGreatShare
import Derived.Test.YtclekllaikcglaaGreatMap
import Derived.Test.YtclekllaikcglaaGreatXor
namespace Go.Proofs.YtclekllaikcglaaGreat
open Go Go.RowKit

/-- Shares that are there: place, how many, bytes. -/
abbrev GS := List (Nat × Nat × List UInt8)
def gents (c : Nat) (l : GS) : Ents := l.zipIdx.map fun p => ((p.1.1 : Int), .string (bs p.1.2.2), c + p.2)
theorem gents_length (c : Nat) (l : GS) : (gents c l).length = l.length := by simp [gents]
theorem gents_nil (c : Nat) : gents c [] = [] := rfl
theorem gents_snoc (c : Nat) (l : GS) (i n : Nat) (t : List UInt8) : gents c l ++ [((i : Int), .string (bs t), c + l.length)] = gents c (l ++ [(i, n, t)]) := by
  simp [gents, List.zipIdx_append]
theorem gents_born (c : Nat) : ∀ (l : GS), Born (gents c l) (c + l.length) := by
  intro l
  have : ∀ (m : GS), Born (gents c m.reverse) (c + m.reverse.length) := by
    intro m
    induction m with
    | nil => exact ⟨by simp [gents], by simp [gents]⟩
    | cons x m ih =>
      obtain ⟨i, n, t⟩ := x
      rw [List.reverse_cons, ← gents_snoc]
      have := ih.snoc (i : Int) (.string (bs t))
      simpa [Nat.add_assoc] using this
  have h := this l.reverse
  simpa using h
theorem gents_look (c : Nat) (l : GS) (i : Nat) : (lookM (gents c l) (i : Int)).isSome = l.any (fun x => x.1 == i) := by
  have : lookM (gents c l) (i : Int) = none ↔ l.any (fun x => x.1 == i) = false := by
    rw [lookM_none, List.any_eq_false]
    constructor
    · intro h x hx he
      obtain ⟨j, hj, rfl⟩ := List.mem_iff_getElem.1 hx
      refine h (((l[j].1 : Nat) : Int), .string (bs l[j].2.2), c + j) ?_ ?_
      · simp only [gents, List.mem_map]
        exact ⟨(l[j], j), by simp [List.mem_zipIdx_iff_getElem?, hj], rfl⟩
      · simp at he; simp [he]
    · intro h e he
      simp only [gents, List.mem_map] at he
      obtain ⟨⟨x, j⟩, hx, rfl⟩ := he
      have hm : x ∈ l := by
        have := List.mem_zipIdx hx
        rw [this.2.2]; exact List.getElem_mem _
      have := h x hm
      simp at this
      simp; omega
  cases hl : lookM (gents c l) (i : Int) with
  | none => simp [this.1 hl]
  | some v =>
    cases ha : l.any (fun x => x.1 == i) with
    | false => rw [this.2 ha] at hl; cases hl
    | true => rfl

def gcells (bm n size : Nat) : Array Value := #[.map (some bm), .int .i64 n, .int .i64 size]
/-- The program's gatherer at block bg, its map at block bm. -/
def PG (w : World) (bg bm c : Nat) (l : GS) : Prop :=
  bg ≠ bm ∧ ∃ n size : Nat, n ≤ 16 ∧ size ≤ 64 ∧ w.heap[bg]? = some (.cells (gcells bm n size) 96) ∧ w.heap[bm]? = some (mobj .i64 (gents c l) (c + l.length)) ∧ ∀ x ∈ l, x.2.1 = n ∧ x.2.2.length = size
theorem PG.but {S : List Nat} {w w' : World} {bg bm c : Nat} {l : GS} (h : PG w bg bm c l) (hb : But S w w') (h1 : bg ∉ S) (h2 : bm ∉ S) : PG w' bg bm c l := by
  obtain ⟨hn, n, size, k1, k2, k3, k4, k5⟩ := h
  exact ⟨hn, n, size, k1, k2, hb.keep k3 h1, hb.keep k4 h2, k5⟩
theorem PG.ext {w w' : World} {bg bm c : Nat} {l : GS} (h : PG w bg bm c l) (hx : Ext w w') : PG w' bg bm c l := h.but (S := []) (But.of_ext hx) (by simp) (by simp)
theorem und_gm : Tryz.prog.underlying 94 = some (.map 3 9) := by kernel_rfl
theorem und_int : Tryz.prog.underlying 3 = some (.int .i64) := by kernel_rfl
theorem zero_str (w : World) : (zeroValue 9).run Tryz.prog w = .ok (.string { data := #[] }) w := by kernel_rfl
theorem gcell {w : World} {bg bm n size : Nat} (h : w.heap[bg]? = some (.cells (gcells bm n size) 96)) :
    bg < w.heap.size ∧ w.cell? ⟨bg, 0, none⟩ = some (.map (some bm)) ∧ w.cell? ⟨bg, 1, none⟩ = some (.int .i64 n) ∧ w.cell? ⟨bg, 2, none⟩ = some (.int .i64 size) ∧ w.frozen? ⟨bg, 1, none⟩ = false ∧ w.frozen? ⟨bg, 2, none⟩ = false :=
  ⟨blk_lt h, cell_blk h rfl, cell_blk h rfl, cell_blk h rfl, frozen_blk h, frozen_blk h⟩
set_option maxRecDepth 100000 in
set_option maxHeartbeats 1000000 in
theorem made_yes (w : World) (bg bm n size : Nat) (h : w.heap[bg]? = some (.cells (gcells bm n size) 96)) :
    Calls Tryz.prog 58 #[.pointer (some ⟨bg, 0, none⟩)] w fun e w' => e = .returned (.bool true) ∧ w = w' := by
  have c0 : w.cell? ⟨bg, 0, none⟩ = some (.map (some bm)) := cell_blk h rfl
  have hne : ∀ w : World, (binOp .neq 94 (.map (some bm)) (.map none)).run Tryz.prog w = .ok (.bool true) w := fun w => rfl
  clear h
  go_enter Tryz.func58, Tryz.ntmps58
  go_wp2
  go_returns
  exact ⟨rfl, rfl⟩
set_option maxRecDepth 100000 in
set_option maxHeartbeats 1000000 in
theorem made_no (w : World) :
    Calls Tryz.prog 58 #[.pointer none] w fun e w' => e = .returned (.bool false) ∧ w = w' := by
  go_enter Tryz.func58, Tryz.ntmps58
  go_wp2
  go_returns
  exact ⟨rfl, rfl⟩
set_option maxRecDepth 100000 in
set_option maxHeartbeats 1000000 in
theorem New_any (w : World) :
    Calls Tryz.prog 26 #[] w fun e w' => ∃ bg bm, e = .returned (.pointer (some ⟨bg, 0, none⟩)) ∧ w.heap.size ≤ bg ∧ w.heap.size ≤ bm ∧ bg < w'.heap.size ∧ bm < w'.heap.size ∧ PG w' bg bm 0 [] ∧ Ext w w' := by
  have hmm := @run_makeMap Tryz.prog
  go_enter Tryz.func26, Tryz.ntmps26
  go_wp2
  go_returns
  refine ⟨w.heap.size + 1, w.heap.size, rfl, by omega, by omega, by simp, by simp; omega, ⟨by omega, 0, 0, by omega, by omega, ?_, ?_, by simp⟩, (by repeat (first | exact Ext.refl _ | assumption | (with_reducible refine Ext.drew ?_) | (with_reducible refine Ext.drewN ?_ _) | (with_reducible refine Ext.alloc ?_ _) | (refine Ext.trans ?_ (by assumption))))⟩
  · have hs : (w.alloc (Obj.map #[] 0)).heap.size = w.heap.size + 1 := by simp
    rw [← hs]; exact heap_alloc_new _ _
  · exact heap_alloc_old _ _ (heap_alloc_new _ _)

/-! ### Add -/
/-- What Add answers, and what is there then. -/
def addS (l : GS) (s : List UInt8) : Int × GS := match readS s with
  | none => (7, l)
  | some (i, n, t) => if l.any (fun x => x.2.1 != n || x.2.2.length != t.length) then (60, l) else if l.any (fun x => x.1 == i) then (8, l) else (0, l ++ [(i, n, t)])
theorem readS_some {s : List UInt8} {i n : Nat} {t : List UInt8} (h : readS s = some (i, n, t)) : 1 ≤ t.length ∧ t.length ≤ 64 ∧ 1 ≤ n ∧ n ≤ 16 ∧ 1 ≤ i ∧ i ≤ n := by
  unfold readS at h
  split at h
  · split at h
    · rename_i h'; simp only [Option.some.injEq, Prod.mk.injEq] at h; obtain ⟨rfl, rfl, rfl⟩ := h; exact h'
    · cases h
  · cases h
def AddPost (w : World) (bg bm c : Nat) (l : GS) (s : List UInt8) (e : Ending) (w' : World) : Prop :=
  e = .returned (.int .i64 (addS l s).1) ∧ PG w' bg bm c (addS l s).2 ∧ But [bg, bm] w w'
set_option maxRecDepth 100000 in
set_option maxHeartbeats 1000000 in
theorem Add_form (w : World) (bg bm c : Nat) (l : GS) (s : List UInt8) (hs : s.length ≤ 1099511627776) (h : PG w bg bm c l) (hr : readS s = none) :
    Calls Tryz.prog 34 #[.pointer (some ⟨bg, 0, none⟩), .string (bs s)] w (AddPost w bg bm c l s) := by
  have h' := h
  obtain ⟨hn, n, size, k1, k2, k3, k4, k5⟩ := h
  have c0 : w.cell? ⟨bg, 0, none⟩ = some (.map (some bm)) := cell_blk k3 rfl
  have hv : readV s = .tuple #[.int .i64 0, .int .i64 0, .string { data := #[] }, .int .i64 7] := by unfold readV; rw [hr]
  have G1 := Lib.hid (made_yes w bg bm n size k3)
  have G2 := Lib.hid (fun w => hv ▸ Read_any s w hs)
  have hp : addS l s = (7, l) := by unfold addS; rw [hr]
  have HP := Lib.hid hp
  have H' := Lib.hid h'
  clear h' k3 k4 k5 hp hv hr
  go_enter Tryz.func34, Tryz.ntmps34
  go_wp2_with (first
    | (go_at_call 58; with_reducible refine G1.out.mono ?_; rintro e w' ⟨rfl, rfl⟩)
    | (go_at_call 31; with_reducible refine (G2.out _).mono ?_; rintro e w1 ⟨rfl, hx1⟩))
  go_returns
  unfold AddPost
  rw [HP.out]
  exact ⟨rfl, H'.out.ext hx1, But.of_ext hx1⟩

set_option maxRecDepth 100000 in
set_option maxHeartbeats 1000000 in
theorem Add_first (w : World) (bg bm c : Nat) (s : List UInt8) (hs : s.length ≤ 1099511627776) (h : PG w bg bm c []) (i n : Nat) (t : List UInt8) (hr : readS s = some (i, n, t)) :
    Calls Tryz.prog 34 #[.pointer (some ⟨bg, 0, none⟩), .string (bs s)] w (AddPost w bg bm c [] s) := by
  obtain ⟨hn, n0, size0, k1, k2, k3, k4, k5⟩ := h
  obtain ⟨r1, r2, r3, r4, r5, r6⟩ := readS_some hr
  have hv : readV s = .tuple #[.int .i64 i, .int .i64 n, .string (bs t), .int .i64 0] := by unfold readV; rw [hr]
  have G1 := Lib.hid (made_yes w bg bm n0 size0 k3)
  have G2 := Lib.hid (fun w => hv ▸ Read_any s w hs)
  have hp : addS [] s = (0, [(i, n, t)]) := by unfold addS; rw [hr]; rfl
  have HP := Lib.hid hp
  have K3 := Lib.hid k3
  have K4 := Lib.hid k4
  have hbg := blk_lt k3
  have hn' : bm ≠ bg := fun e => hn e.symm
  clear k3 k4 k5 hp hv hr
  go_enter Tryz.func34, Tryz.ntmps34
  go_wp2_with (first
    | (go_at_call 58; with_reducible refine G1.out.mono ?_; rintro e w' ⟨rfl, rfl⟩)
    | (go_at_call 31; with_reducible refine (G2.out _).mono ?_; rintro e w1 ⟨rfl, hx1⟩; obtain ⟨cb, c0, c1, c2, cf1, cf2⟩ := gcell (hx1.keep K3.out))
    | (at_len; refine wpl_len rfl _ _ rfl und_gm bm _ _ rfl (hx1.keep K4.out) 0 rfl ?_)
    | (at_lookup; refine wpl_look rfl _ _ _ rfl und_gm und_int (zero_str _) bm _ _ rfl ((heap_setCell_other _ _ _ hn').trans ((heap_setCell_other _ _ _ hn').trans (hx1.keep K4.out))) _ rfl none rfl ?_)
    | (at_mapUpdate; refine wpl_put rfl _ _ _ _ rfl und_gm und_int bm _ _ rfl ((heap_setCell_other _ _ _ hn').trans ((heap_setCell_other _ _ _ hn').trans (hx1.keep K4.out))) (i : Int) rfl (.string (bs t)) rfl rfl ?_; intro w2 hw2
       have hB2 : But [bg, bm] w w2 := hw2 ▸ ((((But.of_ext hx1).setCell (Or.inl (by simp)) _).setCell (Or.inl (by simp)) _).setB (Or.inl (by simp)) _)
       have hP2 : PG w2 bg bm c [(i, n, t)] := by
         rw [hw2]
         refine ⟨hn, n, t.length, r4, r2, ?_, ?_, by simp⟩
         · rw [heap_setB_other _ _ _ hn, heap_setCell_same (i := 2) _ (heap_setCell_same (i := 1) _ (hx1.keep K3.out))]; rfl
         · rw [heap_setB_same _ ((heap_setCell_other _ _ _ hn').trans ((heap_setCell_other _ _ _ hn').trans (hx1.keep K4.out)))]
           show some (mobj .i64 (gents c [] ++ [((i : Int), .string (bs t), c + 0)]) (c + 0 + 1)) = _
           exact congrArg (fun L => some (mobj .i64 L (c + 1))) (gents_snoc c [] i n t)
       clear hw2))
  all_goals go_returns
  all_goals (unfold AddPost; rw [HP.out]; exact ⟨rfl, hP2, hB2⟩)

set_option maxRecDepth 100000 in
set_option maxHeartbeats 2000000 in
theorem Add_more (w : World) (bg bm c : Nat) (l : GS) (s : List UInt8) (hs : s.length ≤ 1099511627776) (hl : 0 < l.length) (hl2 : l.length ≤ 1048576) (h : PG w bg bm c l) (i n : Nat) (t : List UInt8) (hr : readS s = some (i, n, t)) :
    Calls Tryz.prog 34 #[.pointer (some ⟨bg, 0, none⟩), .string (bs s)] w (AddPost w bg bm c l s) := by
  have H' := Lib.hid h
  obtain ⟨hn, n0, size0, k1, k2, k3, k4, k5⟩ := h
  obtain ⟨r1, r2, r3, r4, r5, r6⟩ := readS_some hr
  have hv : readV s = .tuple #[.int .i64 i, .int .i64 n, .string (bs t), .int .i64 0] := by unfold readV; rw [hr]
  have G1 := Lib.hid (made_yes w bg bm n0 size0 k3)
  have G2 := Lib.hid (fun w => hv ▸ Read_any s w hs)
  have ha : l.any (fun x => x.2.1 != n || x.2.2.length != t.length) = (n0 != n || size0 != t.length) := by
    cases hb : (n0 != n || size0 != t.length) with
    | false =>
      rw [List.any_eq_false]; intro x hx
      obtain ⟨e1, e2⟩ := k5 x hx
      rw [e1, e2, hb]; simp
    | true =>
      rw [List.any_eq_true]
      refine ⟨l[0], List.getElem_mem hl, ?_⟩
      obtain ⟨e1, e2⟩ := k5 l[0] (List.getElem_mem hl)
      rw [e1, e2, hb]
  have hp : addS l s = if (n0 != n || size0 != t.length) then (60, l) else if l.any (fun x => x.1 == i) then (8, l) else (0, l ++ [(i, n, t)]) := by unfold addS; rw [hr]; simp only [ha]
  have hk := gents_look c l i
  have HP0 := Lib.hid hp
  have HK := Lib.hid hk
  have K3 := Lib.hid k3
  have K4 := Lib.hid k4
  have K5 := Lib.hid k5
  have hbg := blk_lt k3
  have hn' : bm ≠ bg := fun e => hn e.symm
  have hl0 : ((l.length : Int) == 0) = false := beq_eq_false_iff_ne.2 (by omega)
  clear k3 k4 k5 hp hv hr ha hk
  by_cases q1 : n0 = n
  · have t1 : ((n : Int) != (n0 : Int)) = false := by simp [q1]
    have b1 : (n0 != n) = false := by simp [q1]
    by_cases q2 : size0 = t.length
    · have t2 : ((t.length : Int) != (size0 : Int)) = false := by simp [q2]
      have b2 : (size0 != t.length) = false := by simp [q2]
      cases hk : l.any (fun x => x.1 == i) with
      | true =>
        have hp : addS l s = (8, l) := by rw [HP0.out, b1, b2, hk]; rfl
        obtain ⟨v, hv⟩ : ∃ v, lookM (gents c l) (i : Int) = some v := by
          have := HK.out; rw [hk] at this; exact Option.isSome_iff_exists.1 this
        have HP := Lib.hid hp
        have HV := Lib.hid hv
        clear hp hv hk q1 q2 b1 b2
        go_enter Tryz.func34, Tryz.ntmps34
        go_wp2_with (first
          | (go_at_call 58; with_reducible refine G1.out.mono ?_; rintro e w' ⟨rfl, rfl⟩)
          | (go_at_call 31; with_reducible refine (G2.out _).mono ?_; rintro e w1 ⟨rfl, hx1⟩; obtain ⟨cb, c0, c1, c2, cf1, cf2⟩ := gcell (hx1.keep K3.out))
          | (at_len; refine wpl_len rfl _ _ rfl und_gm bm _ _ rfl (hx1.keep K4.out) (l.length : Int) (by rw [gents_length]) ?_)
          | (at_lookup; refine wpl_look rfl _ _ _ rfl und_gm und_int (zero_str _) bm _ _ rfl (hx1.keep K4.out) (i : Int) rfl (some v) HV.out ?_))
        go_returns
        unfold AddPost
        rw [HP.out]
        exact ⟨rfl, H'.out.ext hx1, But.of_ext hx1⟩
      | false =>
        have hp : addS l s = (0, l ++ [(i, n, t)]) := by rw [HP0.out, b1, b2, hk]; rfl
        have hv : lookM (gents c l) (i : Int) = none := by
          have := HK.out; rw [hk] at this; exact Option.isSome_eq_false_iff.1 this |> Option.isNone_iff_eq_none.1
        have HP := Lib.hid hp
        have HV := Lib.hid hv
        have HQ1 := Lib.hid q1
        have HQ2 := Lib.hid q2
        clear hp hv hk q1 q2 b1 b2
        go_enter Tryz.func34, Tryz.ntmps34
        go_wp2_with (first
          | (go_at_call 58; with_reducible refine G1.out.mono ?_; rintro e w' ⟨rfl, rfl⟩)
          | (go_at_call 31; with_reducible refine (G2.out _).mono ?_; rintro e w1 ⟨rfl, hx1⟩; obtain ⟨cb, c0, c1, c2, cf1, cf2⟩ := gcell (hx1.keep K3.out))
          | (at_len; refine wpl_len rfl _ _ rfl und_gm bm _ _ rfl (hx1.keep K4.out) (l.length : Int) (by rw [gents_length]) ?_)
          | (at_lookup; refine wpl_look rfl _ _ _ rfl und_gm und_int (zero_str _) bm _ _ rfl (hx1.keep K4.out) (i : Int) rfl none HV.out ?_)
          | (at_mapUpdate; refine wpl_put rfl _ _ _ _ rfl und_gm und_int bm _ _ rfl (hx1.keep K4.out) (i : Int) rfl (.string (bs t)) rfl HV.out ?_; intro w2 hw2
             have hB2 : But [bg, bm] w w2 := hw2 ▸ ((But.of_ext hx1).setB (Or.inl (by simp)) _)
             have hP2 : PG w2 bg bm c (l ++ [(i, n, t)]) := by
               rw [hw2]
               refine ⟨hn, n0, size0, k1, k2, ?_, ?_, ?_⟩
               · rw [heap_setB_other _ _ _ hn]; exact hx1.keep K3.out
               · rw [heap_setB_same _ (hx1.keep K4.out), gents_snoc, List.length_append]; rfl
               · intro x hx
                 rcases List.mem_append.1 hx with hx | hx
                 · exact K5.out x hx
                 · simp at hx; subst hx; exact ⟨HQ1.out.symm, HQ2.out.symm⟩
             clear hw2))
        go_returns
        unfold AddPost
        rw [HP.out]
        exact ⟨rfl, hP2, hB2⟩
    · have t2 : ((t.length : Int) != (size0 : Int)) = true := by simp; omega
      have b2 : (size0 != t.length) = true := by simpa using q2
      have hp : addS l s = (60, l) := by rw [HP0.out, b1, b2]; rfl
      have HP := Lib.hid hp
      generalize hv : lookM (gents c l) (i : Int) = r
      have HV := Lib.hid hv
      clear hp hv q1 q2 b1 b2
      go_enter Tryz.func34, Tryz.ntmps34
      go_wp2_with (first
        | (go_at_call 58; with_reducible refine G1.out.mono ?_; rintro e w' ⟨rfl, rfl⟩)
        | (go_at_call 31; with_reducible refine (G2.out _).mono ?_; rintro e w1 ⟨rfl, hx1⟩; obtain ⟨cb, c0, c1, c2, cf1, cf2⟩ := gcell (hx1.keep K3.out))
        | (at_len; refine wpl_len rfl _ _ rfl und_gm bm _ _ rfl (hx1.keep K4.out) (l.length : Int) (by rw [gents_length]) ?_)
        | (at_lookup; refine wpl_look rfl _ _ _ rfl und_gm und_int (zero_str _) bm _ _ rfl (hx1.keep K4.out) (i : Int) rfl r HV.out ?_))
      go_returns
      unfold AddPost
      rw [HP.out]
      exact ⟨rfl, H'.out.ext hx1, But.of_ext hx1⟩
  · have t1 : ((n : Int) != (n0 : Int)) = true := by simp; omega
    have b1 : (n0 != n) = true := by simpa using q1
    have hp : addS l s = (60, l) := by rw [HP0.out, b1]; rfl
    have HP := Lib.hid hp
    generalize hv : lookM (gents c l) (i : Int) = r
    have HV := Lib.hid hv
    clear hp hv q1 b1
    go_enter Tryz.func34, Tryz.ntmps34
    go_wp2_with (first
      | (go_at_call 58; with_reducible refine G1.out.mono ?_; rintro e w' ⟨rfl, rfl⟩)
      | (go_at_call 31; with_reducible refine (G2.out _).mono ?_; rintro e w1 ⟨rfl, hx1⟩; obtain ⟨cb, c0, c1, c2, cf1, cf2⟩ := gcell (hx1.keep K3.out))
      | (at_len; refine wpl_len rfl _ _ rfl und_gm bm _ _ rfl (hx1.keep K4.out) (l.length : Int) (by rw [gents_length]) ?_)
      | (at_lookup; refine wpl_look rfl _ _ _ rfl und_gm und_int (zero_str _) bm _ _ rfl (hx1.keep K4.out) (i : Int) rfl r HV.out ?_))
    go_returns
    unfold AddPost
    rw [HP.out]
    exact ⟨rfl, H'.out.ext hx1, But.of_ext hx1⟩
theorem Add_any (w : World) (bg bm c : Nat) (l : GS) (s : List UInt8) (hs : s.length ≤ 1099511627776) (hl : l.length ≤ 1048576) (h : PG w bg bm c l) :
    Calls Tryz.prog 34 #[.pointer (some ⟨bg, 0, none⟩), .string (bs s)] w (AddPost w bg bm c l s) := by
  cases hr : readS s with
  | none => exact Add_form w bg bm c l s hs h hr
  | some r =>
    obtain ⟨i, n, t⟩ := r
    match l, h, hl with
    | [], h, _ => exact Add_first w bg bm c s hs h i n t hr
    | x :: l, h, hl => exact Add_more w bg bm c (x :: l) s hs (by simp) hl h i n t hr
set_option maxRecDepth 100000 in
set_option maxHeartbeats 1000000 in
theorem Add_nil (w : World) (s : List UInt8) :
    Calls Tryz.prog 34 #[.pointer none, .string (bs s)] w fun e w' => e = .returned (.int .i64 1) ∧ w = w' := by
  have G1 := Lib.hid (made_no w)
  go_enter Tryz.func34, Tryz.ntmps34
  go_wp2_with (go_at_call 58; with_reducible refine G1.out.mono ?_; rintro e w' ⟨rfl, rfl⟩)
  go_returns
  exact ⟨rfl, rfl⟩

/-! ### Have, Drop -/
def haveS (l : GS) : Nat × Nat := match l with
  | [] => (0, 0)
  | x :: _ => (l.length, x.2.1)
set_option maxRecDepth 100000 in
set_option maxHeartbeats 1000000 in
theorem Have_any (w : World) (bg bm c : Nat) (l : GS) (hl : l.length ≤ 1048576) (h : PG w bg bm c l) :
    Calls Tryz.prog 32 #[.pointer (some ⟨bg, 0, none⟩)] w fun e w' => e = .returned (.tuple #[.int .i64 (haveS l).1, .int .i64 (haveS l).2]) ∧ Ext w w' := by
  obtain ⟨hn, n, size, k1, k2, k3, k4, k5⟩ := h
  have G1 := Lib.hid (made_yes w bg bm n size k3)
  obtain ⟨cb, c0, c1, c2, cf1, cf2⟩ := gcell k3
  have K4 := Lib.hid k4
  have K5 := Lib.hid k5
  clear k3 k4 k5 cf1 cf2
  cases l with
  | nil =>
    have hln := run_lenM (P := Tryz.prog) und_gm K4.out 0 rfl 3
    go_enter Tryz.func32, Tryz.ntmps32
    go_wp2_with (go_at_call 58; with_reducible refine G1.out.mono ?_; rintro e w' ⟨rfl, rfl⟩)
    go_returns
    exact ⟨rfl, (by repeat (first | exact Ext.refl _ | assumption | (with_reducible refine Ext.drew ?_) | (with_reducible refine Ext.drewN ?_ _) | (with_reducible refine Ext.alloc ?_ _) | (refine Ext.trans ?_ (by assumption))))⟩
  | cons x l =>
    have hl0 : (((x :: l).length : Int) == 0) = false := beq_eq_false_iff_ne.2 (by simp only [List.length_cons]; omega)
    generalize hm : (((x :: l).length : Nat) : Int) = m at hl0
    have hln := run_lenM (P := Tryz.prog) und_gm K4.out m (by rw [gents_length]; exact hm) 3
    have hlq := fun n => run_lenM (P := Tryz.prog) (w := w.drewN n) und_gm K4.out m (by rw [gents_length]; exact hm) 3
    have hr : (haveS (x :: l)).1 = m ∧ (haveS (x :: l)).2 = n := ⟨hm, (K5.out x (by simp)).1⟩
    have HR := Lib.hid hr
    clear hm hr
    go_enter Tryz.func32, Tryz.ntmps32
    go_wp2_with (go_at_call 58; with_reducible refine G1.out.mono ?_; rintro e w' ⟨rfl, rfl⟩)
    go_quiet (fail)
    go_wp2
    go_returns
    rw [HR.out.1, HR.out.2]
    exact ⟨rfl, (by repeat (first | exact Ext.refl _ | assumption | (with_reducible refine Ext.drew ?_) | (with_reducible refine Ext.drewN ?_ _) | (with_reducible refine Ext.alloc ?_ _) | (refine Ext.trans ?_ (by assumption))))⟩
set_option maxRecDepth 100000 in
set_option maxHeartbeats 1000000 in
theorem Have_nil (w : World) :
    Calls Tryz.prog 32 #[.pointer none] w fun e w' => e = .returned (.tuple #[.int .i64 0, .int .i64 0]) ∧ w = w' := by
  have G1 := Lib.hid (made_no w)
  go_enter Tryz.func32, Tryz.ntmps32
  go_wp2_with (go_at_call 58; with_reducible refine G1.out.mono ?_; rintro e w' ⟨rfl, rfl⟩)
  go_returns
  exact ⟨rfl, rfl⟩
set_option maxRecDepth 100000 in
set_option maxHeartbeats 1000000 in
theorem Drop_any (w : World) (bg bm c : Nat) (l : GS) (h : PG w bg bm c l) :
    Calls Tryz.prog 36 #[.pointer (some ⟨bg, 0, none⟩)] w fun e w' => e = .returned (.tuple #[]) ∧ PG w' bg bm (c + l.length) [] ∧ But [bg, bm] w w' := by
  obtain ⟨hn, n, size, k1, k2, k3, k4, k5⟩ := h
  have G1 := Lib.hid (made_yes w bg bm n size k3)
  obtain ⟨cb, c0, c1, c2, cf1, cf2⟩ := gcell k3
  have K3 := Lib.hid k3
  have K4 := Lib.hid k4
  clear k3 k4 k5 cf1 cf2
  go_enter Tryz.func36, Tryz.ntmps36
  go_wp2_with (first
    | (go_at_call 58; with_reducible refine G1.out.mono ?_; rintro e w' ⟨rfl, rfl⟩)
    | (refine wpl_clear rfl _ _ rfl und_gm bm _ _ rfl K4.out ?_; intro w2 hw2
       have hB2 : But [bg, bm] w w2 := hw2 ▸ (But.refl _ _).setB (Or.inl (by simp)) _
       have hP2 : PG w2 bg bm (c + l.length) [] := by
         rw [hw2]
         refine ⟨hn, n, size, k1, k2, ?_, ?_, by simp⟩
         · rw [heap_setB_other _ _ _ hn]; exact K3.out
         · rw [heap_setB_same _ K4.out]; rfl
       clear hw2))
  go_returns
  exact ⟨rfl, hP2, hB2⟩
set_option maxRecDepth 100000 in
set_option maxHeartbeats 1000000 in
theorem Drop_nil (w : World) :
    Calls Tryz.prog 36 #[.pointer none] w fun e w' => e = .returned (.tuple #[]) ∧ w = w' := by
  have G1 := Lib.hid (made_no w)
  go_enter Tryz.func36, Tryz.ntmps36
  go_wp2_with (go_at_call 58; with_reducible refine G1.out.mono ?_; rintro e w' ⟨rfl, rfl⟩)
  go_returns
  exact ⟨rfl, rfl⟩

/-! ### Secret -/
theorem xorL_swap (a b c : List UInt8) : xorL (xorL a b) c = xorL (xorL a c) b := by rw [xorL_assoc, xorL_comm b c, ← xorL_assoc]
theorem lastS_perm {l m : List (List UInt8)} (h : l.Perm m) : ∀ a, lastS a l = lastS a m := by
  unfold lastS
  induction h with
  | nil => intro a; rfl
  | cons x _ ih => intro a; exact ih _
  | swap x y l => intro a; simp only [List.foldl_cons]; rw [xorL_swap]
  | trans _ _ h1 h2 => intro a; rw [h1, h2]
theorem lastS_snoc (a : List UInt8) (l : List (List UInt8)) (s : List UInt8) : lastS a (l ++ [s]) = xorL (lastS a l) s := by simp [lastS, List.foldl_append]
theorem sub_length {α : Type} [DecidableEq α] : ∀ (l m : List α), l.Nodup → (∀ x ∈ l, x ∈ m) → l.length ≤ m.length
  | [], _, _, _ => by simp
  | x :: l, m, h, hs => by
    rw [List.nodup_cons] at h
    have hx := hs x (by simp)
    have ih := sub_length l (m.erase x) h.2 (fun y hy => (List.mem_erase_of_ne (fun e => h.1 (by rw [← e]; exact hy))).2 (hs y (by simp [hy])))
    rw [List.length_erase_of_mem hx] at ih
    have : 0 < m.length := List.length_pos_of_mem hx
    simp only [List.length_cons]; omega
def unV : Value → List UInt8
  | .string b => b.data.toList
  | _ => []
theorem unV_str (l : List UInt8) : unV (.string (bs l)) = l := by simp [unV]
theorem gents_mem {c : Nat} {l : GS} {e : Int × Value × Nat} (h : e ∈ gents c l) : ∃ x ∈ l, e.2.1 = .string (bs x.2.2) := by
  simp only [gents, List.mem_map] at h
  obtain ⟨⟨x, j⟩, hx, rfl⟩ := h
  have := List.mem_zipIdx hx
  exact ⟨x, by rw [this.2.2]; exact List.getElem_mem _, rfl⟩
theorem gents_texts (c : Nat) (l : GS) : (gents c l).map (fun e => unV e.2.1) = l.map (·.2.2) := by
  simp only [gents, List.map_map]
  have : ((fun e : Int × Value × Nat => unV e.2.1) ∘ fun p : (Nat × Nat × List UInt8) × Nat => ((p.1.1 : Int), Value.string (bs p.1.2.2), c + p.2)) = (fun x : Nat × Nat × List UInt8 => x.2.2) ∘ Prod.fst := by
    funext p; simp [unV]
  rw [this, ← List.map_map]; simp
/-- What Secret answers: none: shares are wanting. -/
def secretS (l : GS) : Option (List UInt8) := match l with
  | [] => none
  | x :: m => if l.length < x.2.1 then none else some (lastS x.2.2 (m.map (·.2.2)))
def secretV (r : Option (List UInt8)) : Value := match r with
  | none => .tuple #[.string { data := #[] }, .bool false]
  | some s => .tuple #[.string (bs s), .bool true]
def doneN (w : World) (r : Nat) : Nat := match w.heap[r]? with
  | some (.mapIter _ _ seen _) => seen.size
  | _ => 0
theorem doneN_eq {w : World} {r b clk : Nat} {done : Ents} (h : w.heap[r]? = some (iter b clk done)) : doneN w r = done.length := by simp [doneN, h, iter]
set_option maxRecDepth 100000 in
set_option maxHeartbeats 1000000 in
theorem Secret_none (w : World) (bg bm c : Nat) (l : GS) (hl : l.length ≤ 1048576) (h : PG w bg bm c l) (hs : secretS l = none) :
    Calls Tryz.prog 35 #[.pointer (some ⟨bg, 0, none⟩)] w fun e w' => e = .returned (secretV (secretS l)) ∧ Ext w w' := by
  rw [hs]
  have G1 := Have_any w bg bm c l hl h
  match l, hs, hl, G1 with
  | [], _, _, G1 =>
    have G1 : Calls Tryz.prog 32 #[.pointer (some ⟨bg, 0, none⟩)] w fun e w' => e = .returned (.tuple #[.int .i64 0, .int .i64 0]) ∧ Ext w w' := G1
    have G1 := Lib.hid G1
    go_enter Tryz.func35, Tryz.ntmps35
    go_wp2_with (go_at_call 32; with_reducible refine G1.out.mono ?_; rintro e w1 ⟨rfl, hx1⟩)
    go_returns
    exact ⟨rfl, hx1⟩
  | x :: m, hs, hl, G1 =>
    have hlt : ((x :: m).length : Int) < (x.2.1 : Int) := by
      simp only [secretS] at hs
      split at hs
      · rename_i h; exact Int.ofNat_lt.2 h
      · cases hs
    have G1 : Calls Tryz.prog 32 #[.pointer (some ⟨bg, 0, none⟩)] w fun e w' => e = .returned (.tuple #[.int .i64 ((x :: m).length : Int), .int .i64 (x.2.1 : Int)]) ∧ Ext w w' := G1
    have hp : (0 : Int) < ((x :: m).length : Int) := by simp only [List.length_cons]; omega
    generalize ((x :: m).length : Int) = a at hlt G1 hp
    generalize (x.2.1 : Int) = b at hlt G1
    have G1 := Lib.hid G1
    have ha : (a == 0) = false := beq_eq_false_iff_ne.2 (by omega)
    go_enter Tryz.func35, Tryz.ntmps35
    go_wp2_with (go_at_call 32; with_reducible refine G1.out.mono ?_; rintro e w1 ⟨rfl, hx1⟩)
    go_returns
    exact ⟨rfl, hx1⟩
theorem zeros_xorL : ∀ (n : Nat) (t : List UInt8), t.length = n → xorL (List.replicate n 0) t = t
  | 0, [], _ => rfl
  | n + 1, x :: t, h => by
    have ih := zeros_xorL n t (by simpa using h)
    unfold xorL at ih ⊢
    rw [List.replicate_succ, List.zipWith_cons_cons, ih]
    simp [x8]
set_option maxRecDepth 100000 in
set_option maxHeartbeats 1000000 in
theorem Secret_some (w : World) (bg bm c : Nat) (x : Nat × Nat × List UInt8) (m : GS) (hl : (x :: m).length ≤ 1048576) (h : PG w bg bm c (x :: m)) (hs : ¬ (x :: m).length < x.2.1) :
    Calls Tryz.prog 35 #[.pointer (some ⟨bg, 0, none⟩)] w fun e w' => e = .returned (.tuple #[.string (bs (lastS x.2.2 (m.map (·.2.2)))), .bool true]) ∧ Ext w w' := by
  have G1 := Have_any w bg bm c (x :: m) hl h
  have G1 : Calls Tryz.prog 32 #[.pointer (some ⟨bg, 0, none⟩)] w fun e w' => e = .returned (.tuple #[.int .i64 ((x :: m).length : Int), .int .i64 (x.2.1 : Int)]) ∧ Ext w w' := G1
  have hlt : (x.2.1 : Int) ≤ ((x :: m).length : Int) := Int.ofNat_le.2 (by omega)
  have hp : (0 : Int) < ((x :: m).length : Int) := by simp only [List.length_cons]; omega
  generalize ((x :: m).length : Int) = a at hlt G1 hp
  generalize (x.2.1 : Int) = b at hlt G1
  have G1 := Lib.hid G1
  have ha : (a == 0) = false := beq_eq_false_iff_ne.2 (by omega)
  obtain ⟨hn, n, size, k1, k2, k3, k4, k5⟩ := h
  have hfin : ∀ done : Ents, done.Perm (gents c (x :: m)) → lastS (List.replicate size 0) (done.map (fun e => unV e.2.1)) = lastS x.2.2 (m.map (·.2.2)) := by
    intro done hd
    rw [lastS_perm (hd.map _), gents_texts]
    show lastS (xorL (List.replicate size 0) x.2.2) _ = _
    rw [zeros_xorL _ _ (k5 x (by simp)).2]
  have hborn := gents_born c (x :: m)
  have hlen : ∀ e ∈ gents c (x :: m), ∃ t, e.2.1 = .string (bs t) ∧ t.length = size := by
    intro e he
    obtain ⟨y, hy, h⟩ := gents_mem he
    exact ⟨_, h, (k5 y hy).2⟩
  generalize hL : gents c (x :: m) = L at k4 hfin hborn hlen
  generalize c + (x :: m).length = clk at k4 hborn
  generalize lastS x.2.2 (m.map (·.2.2)) = res at hfin
  have K3 := Lib.hid k3; have K4 := Lib.hid k4; have HF := Lib.hid hfin; have HB := Lib.hid hborn; have HLEN := Lib.hid hlen
  have hbm := blk_lt k4
  have hmk := mk_bytes size (by omega)
  have kc := fun w c T => to_str_new w size c T (List.replicate size 0) (by simp)
  clear k3 k4 k5 hfin hborn hlen hL hl hs
  go_enter Tryz.func35, Tryz.ntmps35
  go_wp2_with (first
    | (go_at_call 32; with_reducible refine G1.out.mono ?_; rintro e w1 ⟨rfl, hx1⟩; obtain ⟨cb, c0, c1, c2, -, -⟩ := gcell (hx1.keep K3.out); have hb1 := hx1.size)
    | (at_range; refine wpl_range rfl _ _ rfl und_gm bm _ _ rfl (Ext.keep (Ext.alloc hx1 _) K4.out) ?_))
  go_frame
  have hr : (w1.alloc (.cells (bcells (List.replicate size 0)) 5)).heap.size = w1.heap.size + 1 := by simp
  have HR := Lib.hid hr
  clear hr
  simp only [HR.out]
  go_loopw [6] (fun o wr => ∃ done : Ents, o = .string (bs (lastS (List.replicate size 0) (done.map (fun e => unV e.2.1)))) ∧ (done.map (·.2.2)).Nodup ∧ (∀ e ∈ done, e ∈ L) ∧ wr.heap[w1.heap.size + 1]? = some (iter bm clk done) ∧ Ext w wr) (fun _ wr => L.length - doneN wr (w1.heap.size + 1))
  case atStart => exact ⟨[], rfl, by simp, by simp, by rw [← HR.out]; exact heap_alloc_new _ _, (hx1.alloc _).alloc _⟩
  case round =>
    obtain ⟨done, rfl, hnd, hsub, hit, hx⟩ := hrel
    have hll : (lastS (List.replicate size 0) (done.map (fun e => unV e.2.1))).length = size := by
      rw [lastS_length _ _ (by
        intro s hs
        obtain ⟨e, he, rfl⟩ := List.mem_map.1 hs
        obtain ⟨t, h1, h2⟩ := HLEN.out e (hsub e he)
        rw [h1, unV_str, h2]; simp)]
      simp
    have HN := Lib.hid hnd; have HS := Lib.hid hsub; have HI := Lib.hid hit; have HLL := Lib.hid hll
    clear hnd hsub hit hll
    go_wp2_with (first
      | (at_next; refine wpl_next rfl _ rfl (q := .i64) (w1.heap.size + 1) bm L done clk rfl HI.out (hx.keep K4.out) HB.out HN.out HS.out ?hEnd ?hMore
         case' hEnd =>
           intro hperm
           have hf := HF.out done hperm
           have HFF := Lib.hid hf
           clear hf hperm
           rewrite [HFF.out]
         case' hMore =>
           intro e w2 heL hnd2 hit2 hbut hsz2
           obtain ⟨tx, htx, htl⟩ := HLEN.out e heL
           have hX := Xor_yes (lastS (List.replicate size 0) (done.map (fun e => unV e.2.1))) tx
           have GX := Lib.hid (fun w => hX w (HLL.out.trans htl.symm) (by rw [HLL.out]; omega))
           have hx2 : Ext w w2 := But.ext hx hbut (by simp; omega)
           have HN2 := Lib.hid hnd2; have HI2 := Lib.hid hit2; have HEL := Lib.hid heL; have HTX := Lib.hid htx; have HTL := Lib.hid htl
           clear hnd2 hit2 heL hX htx htl hsz2 hbut)
      | (refine wpl_entry rfl _ rfl (q := .i64) (w1.heap.size + 1) bm L done e clk rfl HI2.out (hx2.keep K4.out) HB.out HEL.out ?_; rewrite [HTX.out])
      | (go_at_call 56; with_reducible refine (GX.out _).mono ?_; rintro e w3 ⟨rfl, hx3⟩))
    all_goals first
      | (go_returns; exact ⟨rfl, hx⟩)
      | (have hsub2 : ∀ y ∈ done ++ [e], y ∈ L := by
           intro y hy
           rcases List.mem_append.1 hy with hy | hy
           · exact HS.out y hy
           · simp at hy; rw [hy]; exact HEL.out
         have hle := sub_length _ _ HN2.out (fun b hb => by
           obtain ⟨y, hy, rfl⟩ := List.mem_map.1 hb
           exact List.mem_map_of_mem (f := fun e : Int × Value × Nat => e.2.2) (hsub2 y hy))
         have hI3 := hx3.keep HI2.out
         refine ⟨⟨done ++ [e], ?_, HN2.out, hsub2, hI3, hx2.trans hx3⟩, ?_⟩
         · rw [List.map_append, List.map_cons, List.map_nil, HTX.out, unV_str, lastS_snoc]
         · rw [doneN_eq hI3, doneN_eq HI.out]
           simp only [List.length_append, List.length_map, List.length_cons, List.length_nil] at hle ⊢
           omega)
theorem Secret_any (w : World) (bg bm c : Nat) (l : GS) (hl : l.length ≤ 1048576) (h : PG w bg bm c l) :
    Calls Tryz.prog 35 #[.pointer (some ⟨bg, 0, none⟩)] w fun e w' => e = .returned (secretV (secretS l)) ∧ Ext w w' := by
  cases hs : secretS l with
  | none => rw [← hs]; exact Secret_none w bg bm c l hl h hs
  | some r =>
    match l, hs, hl, h with
    | x :: m, hs, hl, h =>
      simp only [secretS] at hs
      split at hs
      · cases hs
      · rename_i hn
        cases hs
        exact Secret_some w bg bm c x m hl h hn
set_option maxRecDepth 100000 in
set_option maxHeartbeats 1000000 in
theorem Secret_nil (w : World) :
    Calls Tryz.prog 35 #[.pointer none] w fun e w' => e = .returned (.tuple #[.string { data := #[] }, .bool false]) ∧ w = w' := by
  have G1 := Lib.hid (Have_nil w)
  go_enter Tryz.func35, Tryz.ntmps35
  go_wp2_with (go_at_call 32; with_reducible refine G1.out.mono ?_; rintro e w1 ⟨rfl, rfl⟩)
  go_returns
  exact ⟨rfl, rfl⟩
end Go.Proofs.YtclekllaikcglaaGreat
namespace Go.Proofs.YtclekllaikcglaaGreat
open Go Go.RowKit

def parts (m : Nat) (U : List (List UInt8)) : GS := U.zipIdx.map fun p => (p.2 + 1, m, p.1)
theorem parts_length (m : Nat) (U : List (List UInt8)) : (parts m U).length = U.length := by simp [parts]
theorem parts_at (m : Nat) (U : List (List UInt8)) (i : Nat) (hi : i < U.length) : (parts m U)[i]'(by rw [parts_length]; exact hi) = (i + 1, m, U[i]) := by simp [parts]
/-- The shares handed in ahead of the i-th, but for the k-th. -/
def got (m : Nat) (U : List (List UInt8)) (k i : Nat) : GS := ((parts m U).take i).eraseIdx k
theorem got_zero (m : Nat) (U : List (List UInt8)) (k : Nat) : got m U k 0 = [] := by simp [got]
theorem got_mem {m : Nat} {U : List (List UInt8)} {k i : Nat} {x : Nat × Nat × List UInt8} (h : x ∈ got m U k i) : ∃ j, ∃ hj : j < U.length, j < i ∧ j ≠ k ∧ x = (j + 1, m, U[j]) := by
  obtain ⟨j, hj, hne, he⟩ := List.mem_eraseIdx_iff_getElem.1 h
  have hj' : j < i ∧ j < U.length := by rw [List.length_take, parts_length] at hj; omega
  refine ⟨j, hj'.2, hj'.1, hne, ?_⟩
  rw [← he, List.getElem_take, parts_at m U j hj'.2]
theorem got_same (m : Nat) (U : List (List UInt8)) (k : Nat) : got m U k (k + 1) = got m U k k := by
  unfold got
  rw [List.eraseIdx_of_length_le (k := k) (l := (parts m U).take k) (by rw [List.length_take]; omega)]
  by_cases hk : k < (parts m U).length
  · rw [List.take_succ_eq_append_getElem hk, List.eraseIdx_append_of_length_le (by rw [List.length_take]; omega)]
    rw [List.length_take, Nat.min_eq_left (by omega)]
    simp
  · rw [List.take_of_length_le (by omega), List.take_of_length_le (by omega), List.eraseIdx_of_length_le (by omega)]
theorem got_next (m : Nat) (U : List (List UInt8)) (k i : Nat) (hi : i < U.length) (hne : i ≠ k) : got m U k (i + 1) = got m U k i ++ [(i + 1, m, U[i])] := by
  unfold got
  have hip : i < (parts m U).length := by rw [parts_length]; exact hi
  rw [List.take_succ_eq_append_getElem hip, parts_at m U i hi]
  by_cases h : k < i
  · rw [List.eraseIdx_append_of_lt_length (by rw [List.length_take]; omega)]
  · rw [List.eraseIdx_of_length_le (by simp [List.length_take]; omega), List.eraseIdx_of_length_le (by rw [List.length_take]; omega)]
theorem got_length (m : Nat) (U : List (List UInt8)) (k : Nat) (hk : k < U.length) : (got m U k U.length).length + 1 = U.length := by
  unfold got
  rw [List.length_eraseIdx_of_lt (by rw [List.length_take, parts_length]; omega), List.length_take, parts_length]; omega
theorem got_len_le (m : Nat) (U : List (List UInt8)) (k i : Nat) : (got m U k i).length ≤ U.length := by
  unfold got
  refine Nat.le_trans (List.length_eraseIdx_le _ _) ?_
  rw [List.length_take, parts_length]; omega
theorem got_texts (m : Nat) (U : List (List UInt8)) (k : Nat) : (got m U k U.length).map (·.2.2) = U.eraseIdx k := by
  unfold got
  rw [List.take_of_length_le (by rw [parts_length]; omega)]
  have e : (parts m U).map (·.2.2) = U := by
    simp only [parts, List.map_map]
    exact List.zipIdx_map_fst 0 U
  rw [List.eraseIdx_eq_take_drop_succ, List.eraseIdx_eq_take_drop_succ, List.map_append, List.map_take, List.map_drop, e]
theorem add_new {gs : GS} {s t : List UInt8} {i m q : Nat} (hr : readS s = some (i, m, t)) (ht : t.length = q) (h : ∀ x ∈ gs, x.2.1 = m ∧ x.2.2.length = q ∧ x.1 ≠ i) : addS gs s = (0, gs ++ [(i, m, t)]) := by
  unfold addS
  rw [hr]
  have h1 : gs.any (fun x => x.2.1 != m || x.2.2.length != t.length) = false := by
    rw [List.any_eq_false]; intro x hx; obtain ⟨a, b, _⟩ := h x hx; simp [a, b, ht]
  have h2 : gs.any (fun x => x.1 == i) = false := by
    rw [List.any_eq_false]; intro x hx; obtain ⟨_, _, c⟩ := h x hx; simp [c]
  simp only [h1, h2]; rfl
theorem add_had {gs : GS} {s t : List UInt8} {i m q : Nat} (hr : readS s = some (i, m, t)) (ht : t.length = q) (h : ∀ x ∈ gs, x.2.1 = m ∧ x.2.2.length = q) (hi : ∃ x ∈ gs, x.1 = i) : addS gs s = (8, gs) := by
  unfold addS
  rw [hr]
  have h1 : gs.any (fun x => x.2.1 != m || x.2.2.length != t.length) = false := by
    rw [List.any_eq_false]; intro x hx; obtain ⟨a, b⟩ := h x hx; simp [a, b, ht]
  have h2 : gs.any (fun x => x.1 == i) = true := by
    rw [List.any_eq_true]; obtain ⟨x, hx, he⟩ := hi; exact ⟨x, hx, by simp [he]⟩
  simp only [h1, h2]; rfl
theorem secretS_full {n q : Nat} : ∀ (l : GS), (∀ x ∈ l, x.2.1 = n ∧ x.2.2.length = q) → l ≠ [] → n ≤ l.length → secretS l = some (lastS (List.replicate q 0) (l.map (·.2.2)))
  | [], _, h, _ => absurd rfl h
  | x :: m, h, _, hn => by
    obtain ⟨h1, h2⟩ := h x (by simp)
    simp only [secretS]
    rw [if_neg (by omega)]
    show some _ = some (lastS (xorL (List.replicate q 0) x.2.2) _)
    rw [zeros_xorL _ _ h2]
theorem secretS_less {n : Nat} : ∀ (l : GS), (∀ x ∈ l, x.2.1 = n) → l.length < n → secretS l = none
  | [], _, _ => rfl
  | x :: m, h, hn => by
    have h1 := h x (by simp)
    simp only [secretS]
    rw [if_pos (by omega)]
theorem lastS_xor (a : List UInt8) : ∀ (T : List (List UInt8)) (b : List UInt8), lastS (xorL a b) T = xorL a (lastS b T)
  | [], b => rfl
  | s :: T, b => by
    have ih := lastS_xor a T (xorL b s)
    show lastS (xorL (xorL a b) s) T = _
    rw [xorL_assoc, ih]; rfl
theorem lastS_len (q : Nat) (T : List (List UInt8)) (b : List UInt8) (hb : b.length = q) (h : ∀ x ∈ T, x.length = q) : (lastS b T).length = q := by
  rw [lastS_length b T (fun x hx => by rw [hb]; exact h x hx), hb]
theorem all_secret (q : Nat) (secret : List UInt8) (T : List (List UInt8)) (hs : secret.length = q) (h : ∀ x ∈ T, x.length = q) : lastS (List.replicate q 0) (T ++ [lastS secret T]) = secret := by
  have hz : (List.replicate q (0 : UInt8)).length = q := by simp
  have e : lastS secret T = xorL secret (lastS (List.replicate q 0) T) := by
    have := lastS_xor secret T (List.replicate q 0)
    rwa [xorL_comm secret, zeros_xorL q secret hs] at this
  rw [lastS_snoc, e, xorL_comm]
  exact xorL_back _ _ (by rw [hs, lastS_len q T _ hz h])
theorem erase_xor (q : Nat) (U : List (List UInt8)) (k : Nat) (hk : k < U.length) : xorL (lastS (List.replicate q 0) (U.eraseIdx k)) U[k] = lastS (List.replicate q 0) U := by
  rw [← lastS_snoc]
  refine lastS_perm (List.Perm.trans List.perm_append_comm ?_) _
  rw [List.eraseIdx_eq_take_drop_succ]
  refine List.Perm.trans (List.perm_middle (l₁ := List.take k U) (l₂ := List.drop (k + 1) U)).symm ?_
  rw [← List.drop_eq_getElem_cons hk, List.take_append_drop]
end Go.Proofs.YtclekllaikcglaaGreat
