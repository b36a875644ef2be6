/- Laws on memory: slices that came in, copy, maps keyed by integers. -/
import Derived.Test.YtgncnplgjhaojaaBase
import Derived.Laws.CopyOwn
namespace Go.Proofs.Ytgncnplgjhaojaa
open Go Go.RowKit

def strV (l : List UInt8) : Value := .string (bs l)
/-- The slice v reads as xs (of one-cell elements). -/
def Sl (w : World) (v : Value) (xs : List Value) : Prop :=
  ∃ ad cap, v = .slice ad xs.length cap ∧ ∀ i (hi : i < xs.length), ∃ b off, ad = some ⟨b, off, none⟩ ∧ b < w.heap.size ∧ w.cell? ⟨b, off + i, none⟩ = some xs[i]
theorem Sl.ext {w w' : World} {v : Value} {xs : List Value} (h : Sl w v xs) (hx : Ext w w') : Sl w' v xs := by
  obtain ⟨ad, cap, hv, hc⟩ := h
  refine ⟨ad, cap, hv, fun i hi => ?_⟩
  obtain ⟨b, off, ha, hb, hcell⟩ := hc i hi
  exact ⟨b, off, ha, Nat.lt_of_lt_of_le hb hx.size, by rw [hx.below.cell (p := ⟨b, off + i, none⟩) hb]; exact hcell⟩
theorem Sl.at_ {w : World} {ad : Option Addr} {n cap : Nat} {xs : List Value} (h : Sl w (.slice ad n cap) xs) (i : Nat) (hi : i < xs.length) :
    ∃ b off, ad = some ⟨b, off, none⟩ ∧ b < w.heap.size ∧ w.cell? ⟨b, off + i, none⟩ = some xs[i] := by
  obtain ⟨ad', cap', hv, hc⟩ := h
  simp only [Value.slice.injEq] at hv
  rw [hv.1]; exact hc i hi
/-- A slice of texts. -/
theorem Sl.str {w : World} {ad : Option Addr} {n cap : Nat} {l : List (List UInt8)} (h : Sl w (.slice ad n cap) (l.map strV)) (i : Nat) (hi : i < l.length) :
    ∃ b off, ad = some ⟨b, off, none⟩ ∧ b < w.heap.size ∧ w.cell? ⟨b, off + i, none⟩ = some (.string (bs l[i])) := by
  obtain ⟨b, off, h1, h2, h3⟩ := h.at_ i (by simpa using hi)
  exact ⟨b, off, h1, h2, by rw [h3]; simp [strV]⟩
theorem Sl.len {w : World} {ad : Option Addr} {n cap : Nat} {xs : List Value} (h : Sl w (.slice ad n cap) xs) : n = xs.length := by
  obtain ⟨ad', cap', hv, _⟩ := h
  simp only [Value.slice.injEq] at hv
  exact hv.2.1
theorem Sl.look {w : World} {v : Value} {xs : List Value} (h : Sl w v xs) : ∃ ad cap, v = .slice ad xs.length cap := let ⟨ad, cap, hv, _⟩ := h; ⟨ad, cap, hv⟩
theorem Sl.below {w w' : World} {B : Nat} {v : Value} {xs : List Value} (h : Sl w v xs) (hx : Below B w w') (hB : w.heap.size ≤ B) : Sl w' v xs := h.ext (hx.mono hB)
theorem Sl.nil (w : World) : Sl w (.slice none 0 0) [] := ⟨none, 0, rfl, fun i hi => absurd hi (by simp)⟩
theorem Row.sl {w : World} {B : Nat} {e : TypeId} {v : Value} {xs : List Value} (h : Row w B e v xs) : Sl w v xs := by
  rcases h.look with ⟨rfl, rfl⟩ | ⟨g, cap, cur, rfl, _, hh, h3, h5, h6⟩
  · exact Sl.nil w
  · exact ⟨_, cap, rfl, fun i hi => ⟨g, 0, rfl, blk_lt hh, by rw [Nat.zero_add]; exact Row.cellAt h i hi⟩⟩

/-! ### copy -/
def splice (L : List UInt8) (o : Nat) (c : List UInt8) : List UInt8 := L.take o ++ c ++ L.drop (o + c.length)
theorem splice_length (L : List UInt8) (o : Nat) (c : List UInt8) (h : o + c.length ≤ L.length) : (splice L o c).length = L.length := by
  simp [splice]; omega
/-- A text, made n bytes long. -/
def padTo (n : Nat) (l : List UInt8) : List UInt8 := l.take n ++ List.replicate (n - l.length) 0
@[simp] theorem padTo_length (n : Nat) (l : List UInt8) : (padTo n l).length = n := by simp [padTo]; omega
theorem padTo_same (l : List UInt8) : padTo l.length l = l := by simp [padTo]
theorem splice_zeros (n : Nat) (l : List UInt8) : splice (List.replicate n 0) 0 (l.take n) = padTo n l := by
  simp [splice, padTo]; omega
theorem map_bytes (l : List UInt8) : (bs l).data.map (fun b => Value.int .u8 (b.toNat : Int)) = bcells l := by simp [bcells]
theorem run_copy_str {P : Program} {dT sT ty e : TypeId} (hu : P.underlying dT = some (.slice e)) {z : Value} {by_ : Nat} (hi : (P.info? e).map (fun i => (i.zero, i.size, i.bytes)) = some (some z, 1, by_))
    (w : World) (g o n c T : Nat) (L l : List UInt8) (hg : w.heap[g]? = some (.cells (bcells L) T (0, 0))) (hl : o + n ≤ L.length) :
    (Builtin.copy_ #[dT, sT] ty #[.slice (some ⟨g, o, none⟩) n c, .string (bs l)]).run P w = .ok (goInt (min l.length n)) (w.setRow g (bcells (splice L o (l.take n)))) := by
  obtain ⟨i0, hi, _, hz1, _⟩ := info_parts hi
  have hst := run_storeCells_at P g o T ((l.take n).map byteV) 0 (bcells L) w hg (by simp; omega) (oneCells _ (fun _ => rfl))
  have hm : l.length.min n = min l.length n := rfl
  have ht : List.take (min l.length n) (List.map (fun b => Value.int IntKind.u8 (b.toNat : Int)) l) = (l.take n).map byteV := by
    rw [← List.map_take, Nat.min_comm]
    show _ = List.map byteV _
    congr 1
    rw [List.take_eq_take_iff]; simp
  have hw : (List.take (o + 0) (bcells L).toList ++ List.map byteV (List.take n l) ++ List.drop (o + 0 + (List.map byteV (List.take n l)).length) (bcells L).toList).toArray = bcells (splice L o (l.take n)) := by
    have e : (fun b : UInt8 => Value.int IntKind.u8 (b.toNat : Int)) = byteV := rfl
    simp [bcells, splice, e, List.map_take, List.map_drop]
  rw [hw] at hst
  rw [List.map_take] at hst
  have hmi : ((min l.length n : Nat) : Int) = min (l.length : Int) (n : Int) := by omega
  simp [Builtin.copy_, run_underlying hu, sizeOf, typeInfo, hi, Builtin.lenOf, Builtin.firstCells, hm, ht, hst, hmi]
theorem setRow_below {w : World} {g : Nat} (B : Nat) (hB : B ≤ g) (cs : Array Value) : Below B w (w.setRow g cs) := below_setRow (Below.refl B w) hB cs
/-- copy(b, text) into a slice of the call's own. -/
theorem wpl_copy_str {P : Program} {ops : Array Oper} {rest : List Oper} {o : Oper} {a : Act} {Q : Exit → Act → World → Prop} {w : World} (hgd : o.guard = none) {s x : Operand} {dT sT e : TypeId}
    (ho : o.op = .call { callee := .builtin .copy, args := #[s, x], argTypes := #[dT, sT] }) (hu : P.underlying dT = some (.slice e)) {z : Value} {by_ : Nat} (hi : (P.info? e).map (fun i => (i.zero, i.size, i.bytes)) = some (some z, 1, by_))
    {g off n c T : Nat} {L l : List UInt8} (h1 : a.eval s = .slice (some ⟨g, off, none⟩) n c) (h2 : a.eval x = .string (bs l)) (hg : w.heap[g]? = some (.cells (bcells L) T (0, 0))) (hl : off + n ≤ L.length)
    (h : ∀ w', w'.heap[g]? = some (.cells (bcells (splice L off (l.take n))) T (0, 0)) → (∀ k, k ≠ g → w'.heap[k]? = w.heap[k]?) → Below g w w' → wpList P ops Q rest (a.put o.dst (goInt (min l.length n))) w') : wpList P ops Q (o :: rest) a w := by
  refine wpList_plain hgd fun K hK => ?_
  have hr := run_copy_str (P := P) (ty := o.type) (sT := sT) hu hi w g off n c T L l hg hl
  unfold Oper.wp execOp
  simp only [ho, resolve, invoke, builtin, Sem.run_bind, Sem.run_pure, Result.andThen_ok, List.map_toArray, List.map_cons, List.map_nil, h1, h2, hr]
  exact hK _ _ (h _ (setRow_heap w g (bcells L) _ T _ hg) (fun k hk => setRow_other w g k _ hk) (setRow_below g (Nat.le_refl _) _))
/-- The call hands back a slice of its own. -/
def RetRow (w : World) (T : TypeId) (xs : List Value) (e : Ending) (w' : World) : Prop := ∃ v, e = .returned v ∧ Row w' w.heap.size T v xs ∧ Ext w w'
end Go.Proofs.Ytgncnplgjhaojaa
