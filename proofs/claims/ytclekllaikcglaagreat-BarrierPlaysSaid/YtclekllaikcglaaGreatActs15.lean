import Derived.Test.YtclekllaikcglaaGreatBase

/- From a law's walk to its row: slices of acts (layer 15). -/
namespace Go.Proofs.YtclekllaikcglaaGreat
open Go Go.ChangeShapes Go.WideShapes Go.ChangeAt Go.RowKit
structure Act5 where
 op : UInt8
 text : List UInt8
 other : List UInt8
 n : UInt32
 share : UInt8
 fit : Bool
instance : Inhabited Act5 := ⟨⟨0, [], [], 0, 0, false⟩⟩
structure ActAt5 (w : World) (b o : Nat) (x : Act5) : Prop where
 c0 : w.cell? ⟨b, o, none⟩ = some (.int .u8 (x.op.toNat : Int))
 c1 : w.cell? ⟨b, o + 1, none⟩ = some (.string (bs x.text))
 c2 : w.cell? ⟨b, o + 2, none⟩ = some (.string (bs x.other))
 c3 : w.cell? ⟨b, o + 3, none⟩ = some (.int .u32 (x.n.toNat : Int))
 c4 : w.cell? ⟨b, o + 4, none⟩ = some (.int .u8 (x.share.toNat : Int))
 c5 : w.cell? ⟨b, o + 5, none⟩ = some (.bool x.fit)
def SlC (w : World) (ad : Option Addr) (l : List Act5) : Prop :=
 ∀ i (hi : i < l.length), ∃ b o, ad = some ⟨b, o, none⟩ ∧ b < w.heap.size ∧ ActAt5 w b (o + i * 6) l[i]
theorem ActAt5.ext {w w' : World} {b o : Nat} {x : Act5} (h : ActAt5 w b o x) (hx : Ext w w') : ActAt5 w' b o x :=
 ⟨hx.cell_of h.c0, hx.cell_of h.c1, hx.cell_of h.c2, hx.cell_of h.c3, hx.cell_of h.c4, hx.cell_of h.c5⟩
def structFs5 (P : Program) (t : TypeId) : Array Field := match P.underlying t with | some (.struct fs) => fs | _ => #[]
theorem und_act5 : Tryz.prog.underlying 68 = some (.struct (structFs5 Tryz.prog 68)) := by kernel_rfl
theorem act5_f (j : Nat) (hj : j < 6) : ∃ f, (structFs5 Tryz.prog 68)[j]? = some f ∧ f.offset = j ∧ Tryz.prog.cellsOf f.type = 1 ∧ f.type = [5, 9, 9, 46, 5, 4].getD j 0 := by
 have h : (structFs5 Tryz.prog 68).size = 6 ∧ ∀ j, (hj : j < 6) → ((structFs5 Tryz.prog 68).getD j default).offset = j ∧ Tryz.prog.cellsOf ((structFs5 Tryz.prog 68).getD j default).type = 1 ∧ ((structFs5 Tryz.prog 68).getD j default).type = [5, 9, 9, 46, 5, 4].getD j 0 := by decide +kernel
 refine ⟨(structFs5 Tryz.prog 68).getD j default, ?_, h.2 j hj⟩
 rw [Array.getD_eq_getD_getElem?, Array.getElem?_eq_getElem (by omega)]
 rfl
section
variable {H : Type} {enc : TypeId × Value → H}
theorem field_cell5 {w : World} {base n : Nat} {spare : Nat → Bool} {held : Bool} {cs : List Value} {xs : List (DataW H × List MemPlace)} (hl : cs.length = 6) (hxl : xs.length = (structFs5 Tryz.prog 68).size)
  (hf : ∀ (i : Nat) (f : Field), (structFs5 Tryz.prog 68)[i]? = some f → DataW.trod enc Tryz.prog w base spare held n f.type ((cs.drop f.offset).take (Tryz.prog.cellsOf f.type)) = xs[i]?) (j : Nat) (hj : j < 6) :
  ∃ v y, cs[j]? = some v ∧ DataW.trod enc Tryz.prog w base spare held n ([5, 9, 9, 46, 5, 4].getD j 0) [v] = some y := by
 obtain ⟨f, h1, h2, h3, h4⟩ := act5_f j hj
 have h := hf j f h1
 have hjs : j < (structFs5 Tryz.prog 68).size := (Array.getElem?_eq_some_iff.1 h1).1
 rw [h2, h3, h4] at h
 have e : (cs.drop j).take 1 = [cs[j]'(by omega)] := by
  rw [List.drop_eq_getElem_cons (by omega)]; rfl
 rw [e, List.getElem?_eq_getElem (by omega)] at h
 exact ⟨_, _, List.getElem?_eq_getElem (by omega), h⟩
set_option maxRecDepth 100000 in
theorem acts5_in {W : World} {base : Nat} {v : Value} {d : DataW H} {p : List MemPlace}
  (hval : Value.okWide Tryz.prog W .any base 54 v) (h : DataW.Trod enc Tryz.prog W 0 (fun _ => true) true 54 v d p) (hlt : ∀ x ∈ p, x.block < W.heap.size)
  {ts : List TypeId} {ds : List (DataW H)} (hsz : (DataW.weightsEach Tryz.prog ts ds).all (· ≤ reachBytes) = true) {j : Nat} (ht : ts[j]? = some 54) (hd : ds[j]? = some d) :
  ∃ (l : List Act5) (ad : Option Addr) (cap : Nat), v = .slice ad l.length cap ∧ SlC W ad l ∧ l.length ≤ maxLen ∧ ∀ x ∈ l, x.text.length ≤ 140737488351232 ∧ x.other.length ≤ 140737488351232 := by
 have hu : Tryz.prog.underlying 54 = some (.slice 68) := by kernel_rfl
 have hC : Tryz.prog.cellsOf 68 = 6 := by kernel_rfl
 obtain ⟨a0, n, cap, rfl⟩ := okWide_slice hu hval
 obtain ⟨fuel, hf⟩ := h
 rcases Deep.open_slice hu hf with ⟨hcs, hx⟩ | ⟨a, len', cap', m, q, D, Pl, hcs, _, hl, hm, hz, hx, hcell⟩
 ·simp [Value.cells] at hcs
  obtain ⟨rfl, rfl, rfl⟩ := hcs
  exact ⟨[], none, 0, rfl, fun i hi => by simp at hi, by simp, by simp⟩
 ·simp [Value.cells] at hcs
  obtain ⟨rfl, rfl, rfl⟩ := hcs
  simp only [Prod.mk.injEq] at hx
  obtain ⟨rfl, rfl⟩ := hx
  simp only [if_true] at hz
  rw [hC] at hcell hlt
  have each : ∀ i, i < m → ∃ x : Act5, (∀ b o spot, a = ⟨b, o, spot⟩ → spot = none ∧ b < W.heap.size ∧ ActAt5 W b (o + i * 6) x) ∧ (i < n → x.text.length ≤ 140737488351232 ∧ x.other.length ≤ 140737488351232) := fun i hi => by
   obtain ⟨cs', hc, ht'⟩ := hcell i hi
   obtain ⟨_, hcl, hat⟩ := World.cells?_some hc
   obtain ⟨xs, n', _, hDx, _, hxl, hff⟩ := DataW.trod_struct und_act5 ht'
   obtain ⟨v0, y0, e0, t0⟩ := field_cell5 hcl hxl hff 0 (by omega)
   obtain ⟨v1, y1, e1, t1⟩ := field_cell5 hcl hxl hff 1 (by omega)
   obtain ⟨v2, y2, e2, t2⟩ := field_cell5 hcl hxl hff 2 (by omega)
   obtain ⟨v3, y3, e3, t3⟩ := field_cell5 hcl hxl hff 3 (by omega)
   obtain ⟨v4, y4, e4, t4⟩ := field_cell5 hcl hxl hff 4 (by omega)
   obtain ⟨v5, y5, e5, t5⟩ := field_cell5 hcl hxl hff 5 (by omega)
   obtain ⟨b0, h0, _, w0⟩ := DataW.trod_int (by kernel_rfl : Tryz.prog.underlying 5 = some (.int .u8)) t0
   obtain ⟨b1, h1, q1, _⟩ := DataW.trod_string (by kernel_rfl : Tryz.prog.underlying 9 = some .string) t1
   obtain ⟨b2, h2, q2, _⟩ := DataW.trod_string (by kernel_rfl : Tryz.prog.underlying 9 = some .string) t2
   obtain ⟨b3, h3, _, w3⟩ := DataW.trod_int (by kernel_rfl : Tryz.prog.underlying 46 = some (.int .u32)) t3
   obtain ⟨b4, h4, _, w4⟩ := DataW.trod_int (by kernel_rfl : Tryz.prog.underlying 5 = some (.int .u8)) t4
   obtain ⟨b5, h5, _⟩ := DataW.trod_bool (by kernel_rfl : Tryz.prog.underlying 4 = some .bool) t5
   simp only [List.cons.injEq, and_true] at h0 h1 h2 h3 h4 h5
   subst h0 h1 h2 h3 h4 h5
   obtain ⟨c0, rfl⟩ := nat_u8 w0
   obtain ⟨c3, rfl⟩ := nat_u32 w3
   obtain ⟨c4, rfl⟩ := nat_u8 w4
   have str : ∀ k (hk : k < 6) (s : ByteArray), ((structFs5 Tryz.prog 68)[k]?).map (·.type) = some 9 → xs[k]? = some (.lit (.string s.data.toList), []) → i < n → s.data.toList.length ≤ 140737488351232 := fun k hk s hty hxk hin => by
    have hDi : D i = .agg (xs.map (·.1)) := (Prod.mk.injEq _ _ _ _ ▸ hDx).1
    refine sized_elem hsz ht hd hu (d := D i) (List.mem_map.2 ⟨i, List.mem_range.2 hin, rfl⟩) _ ?_
    rw [hDi]
    simp only [DataW.weights, und_act5]
    have hty2 : ((structFs5 Tryz.prog 68).toList.map (·.type))[k]? = some 9 := by rw [List.getElem?_map, Array.getElem?_toList]; exact hty
    exact DataW.weights_mem_each hty2 (d := .lit (.string s.data.toList)) (by rw [List.getElem?_map, hxk]; rfl) _ (by simp [DataW.weights])
   have ftype : ∀ k (hk : k < 6), ((structFs5 Tryz.prog 68)[k]?).map (·.type) = some ([5, 9, 9, 46, 5, 4].getD k 0) := fun k hk => by
    obtain ⟨f, g1, _, _, g4⟩ := act5_f k hk
    rw [g1, Option.map_some, g4]
   have fxs : ∀ k (hk : k < 6) v y, cs'[k]? = some v → DataW.trod enc Tryz.prog W 0 (fun _ => true) true n' ([5, 9, 9, 46, 5, 4].getD k 0) [v] = some y → xs[k]? = some y := fun k hk v y hcv hty => by
    obtain ⟨f, g1, g2, g3, g4⟩ := act5_f k hk
    have hq := hff k f g1
    rw [g2, g3, g4] at hq
    have e : (cs'.drop k).take 1 = [v] := by
     rw [List.drop_eq_getElem_cons (by omega)]
     rw [List.getElem?_eq_getElem (by omega)] at hcv
     injection hcv with hcv
     rw [hcv]; rfl
    rw [e] at hq
    rw [← hq, hty]
   have s1 := str 1 (by omega) b1 (ftype 1 (by omega)) (by rw [← q1]; exact fxs 1 (by omega) _ _ e1 t1)
   have s2 := str 2 (by omega) b2 (ftype 2 (by omega)) (by rw [← q2]; exact fxs 2 (by omega) _ _ e2 t2)
   obtain ⟨c1, rfl⟩ := bs_ex b1
   obtain ⟨c2, rfl⟩ := bs_ex b2
   rw [bs_dataList] at s1 s2
   have k0 := (hat 0 (by omega)).trans e0
   have k1 := (hat 1 (by omega)).trans e1
   have k2 := (hat 2 (by omega)).trans e2
   have k3 := (hat 3 (by omega)).trans e3
   have k4 := (hat 4 (by omega)).trans e4
   have k5 := (hat 5 (by omega)).trans e5
   refine ⟨⟨c0, c1, c2, c3, c4, b5⟩, fun b o spot ha => ?_, fun hin => ⟨s1 hin, s2 hin⟩⟩
   subst ha
   have hspot : spot = none := by
    obtain ⟨cs0, hc0, ht0⟩ := hcell 0 (by omega)
    obtain ⟨_, hcl0, hat0⟩ := World.cells?_some hc0
    have := hat0 0 (by omega)
    rw [List.getElem?_eq_getElem (by omega)] at this
    have := World.cell?_spot this
    simpa [Addr.add] using this
   subst hspot
   simp only [Addr.add_lit, Nat.add_zero] at k0 k1 k2 k3 k4 k5
   exact ⟨rfl, World.block_lt_of_cell? _ _ k0, k0, k1, k2, k3, k4, k5⟩
  obtain ⟨B, hB⟩ := Deep.choose_lt each
  refine ⟨(List.range n).map B, some a, cap, by simp, fun i hi => ?_, by simp; omega, fun x hx => ?_⟩
  ·simp only [List.length_map, List.length_range] at hi
   obtain ⟨xb, xo, spot⟩ := a
   obtain ⟨h1, h2, h3⟩ := (hB i (by omega)).1 xb xo spot rfl
   subst h1
   exact ⟨xb, xo, rfl, h2, by simpa using h3⟩
  ·obtain ⟨i, hi, rfl⟩ := List.mem_map.1 hx
   have hin := List.mem_range.1 hi
   exact (hB i (by omega)).2 hin
end
end Go.Proofs.YtclekllaikcglaaGreat
