/- From a law's walk to its row: slices of strings and of bools. -/
import Derived.SliceStrings
import Derived.Deep.Slices
import Derived.Test.YtipdgiikifmjdaaRow
import Derived.Test.YtipdgiikifmjdaaMem
namespace Go.Proofs.Ytipdgiikifmjdaa
open Go Go.ChangeShapes Go.WideShapes Go.ChangeAt Go.RowKit

section
variable {H : Type} {enc : TypeId × Value → H} {P : Program}
theorem weights_all {e : TypeId} {l : List (DataW H)} {d : DataW H} (hd : d ∈ l) : ∀ n ∈ d.weights P e, n ∈ DataW.weightsAll P e l := by
  induction l with
  | nil => cases hd
  | cons x l ih =>
    intro n hn
    simp only [DataW.weightsAll, List.mem_append]
    rcases List.mem_cons.1 hd with rfl | hd
    · exact Or.inl hn
    · exact Or.inr (ih hd n hn)
theorem sized_elem {ts : List TypeId} {ds : List (DataW H)} (h : (DataW.weightsEach P ts ds).all (· ≤ reachBytes) = true) {j : Nat} {t e : TypeId} {elems spare : List (DataW H)} (ht : ts[j]? = some t) (hd : ds[j]? = some (.slice elems spare)) (hu : P.underlying t = some (.slice e))
    {d : DataW H} (hm : d ∈ elems) : ∀ n ∈ d.weights P e, n ≤ reachBytes := by
  intro n hn
  have := List.all_eq_true.1 h n (DataW.weights_mem_each ht hd n (by
    simp only [DataW.weights, hu]
    have := weights_all (P := P) hm n hn
    simp [this]))
  simpa using this
/-- A slice of texts that came in. -/
theorem strs_in {W : World} {base : Nat} {t e : TypeId} {v : Value} {d : DataW H} {p : List MemPlace} (hu : P.underlying t = some (.slice e)) (he : P.underlying e = some .string) (hc : P.cellsOf e = 1) (hby : P.bytesOf e = 16)
    (hval : Value.okWide P W .any base t v) (h : DataW.Trod enc P W 0 (fun _ => true) true t v d p) (hlt : ∀ x ∈ p, x.block < W.heap.size)
    {ts : List TypeId} {ds : List (DataW H)} (hsz : (DataW.weightsEach P ts ds).all (· ≤ reachBytes) = true) {j : Nat} (ht : ts[j]? = some t) (hd : ds[j]? = some d) :
    ∃ (l : List (List UInt8)) (ad : Option Addr) (cap : Nat), v = .slice ad l.length cap ∧ Sl W (.slice ad l.length cap) (l.map strV) ∧ l.length ≤ 8796093022208 ∧ ∀ x ∈ l, x.length ≤ 140737488351232 := by
  obtain ⟨a0, n, cap, rfl⟩ := okWide_slice hu hval
  obtain ⟨fuel, hf⟩ := h
  rcases open_strings hu he hc hf with ⟨hcs, hx⟩ | ⟨a, len', cap', ss, hcs, _, hl, hm, hz, hx, hcell, hws⟩
  · simp [Value.cells] at hcs
    obtain ⟨rfl, rfl, rfl⟩ := hcs
    exact ⟨[], none, 0, rfl, Sl.nil W, by simp, by simp⟩
  · simp [Value.cells] at hcs
    obtain ⟨rfl, rfl, rfl⟩ := hcs
    simp only [Prod.mk.injEq] at hx
    obtain ⟨rfl, rfl⟩ := hx
    simp only [if_true] at hz
    have hlen : (ss.take n).length = n := by simp; omega
    refine ⟨(ss.take n).map (fun s => s.data.toList), some a, cap, by rw [List.length_map, hlen], ⟨some a, cap, by simp, fun i hi => ?_⟩, ?_, ?_⟩
    · simp only [List.length_map, hlen] at hi
      have hci := hcell i (by omega)
      obtain ⟨xb, xo, spot⟩ := a
      have hspot : spot = none := by simpa [Addr.add] using World.cell?_spot (hcell 0 (by omega))
      subst hspot
      rw [Addr.add_lit] at hci
      refine ⟨xb, xo, rfl, ?_, ?_⟩
      · exact hlt (MemPlace.cell xb (xo + i)) (by
          simp only [MemPlace.row, List.mem_map, List.mem_range]
          exact ⟨i, by omega, rfl⟩)
      · rw [hci]
        have hi' : i < ss.length := by omega
        simp [strV, List.getD, hi', ← bs_of]
    · have h1 := sized_slice hsz ht hd hu
      simp only [strs, List.length_map, List.length_take, List.length_drop, hby, reachBytes] at h1 ⊢
      omega
    · intro x hx
      obtain ⟨s, hs, rfl⟩ := List.mem_map.1 hx
      have := sized_elem hsz ht hd hu (d := .lit (.string s.data.toList)) (by simp only [strs, List.mem_map]; exact ⟨s, hs, rfl⟩) s.data.toList.length (by simp [DataW.weights])
      exact this
/-- A slice of truths that came in. -/
theorem bools_in {W : World} {base : Nat} {t e : TypeId} {v : Value} {d : DataW H} {p : List MemPlace} (hu : P.underlying t = some (.slice e)) (he : P.underlying e = some .bool) (hc : P.cellsOf e = 1) (hby : P.bytesOf e = 1)
    (hval : Value.okWide P W .any base t v) (h : DataW.Trod enc P W 0 (fun _ => true) true t v d p) (hlt : ∀ x ∈ p, x.block < W.heap.size)
    {ts : List TypeId} {ds : List (DataW H)} (hsz : (DataW.weightsEach P ts ds).all (· ≤ reachBytes) = true) {j : Nat} (ht : ts[j]? = some t) (hd : ds[j]? = some d) :
    ∃ (l : List Bool) (ad : Option Addr) (cap : Nat), v = .slice ad l.length cap ∧ Sl W (.slice ad l.length cap) (l.map Value.bool) ∧ l.length ≤ 140737488351232 := by
  obtain ⟨a0, n, cap, rfl⟩ := okWide_slice hu hval
  obtain ⟨fuel, hf⟩ := h
  rcases Deep.open_slice1 hu hc hf with ⟨hcs, hx⟩ | ⟨a, len', cap', m, q, V, D, Pl, hcs, _, hl, hm, hz, hx, hcell⟩
  · simp [Value.cells] at hcs
    obtain ⟨rfl, rfl, rfl⟩ := hcs
    exact ⟨[], none, 0, rfl, Sl.nil W, by simp⟩
  · simp [Value.cells] at hcs
    obtain ⟨rfl, rfl, rfl⟩ := hcs
    simp only [Prod.mk.injEq] at hx
    obtain ⟨rfl, rfl⟩ := hx
    simp only [if_true] at hz
    have each : ∀ i, i < m → ∃ b : Bool, V i = .bool b := fun i hi => by
      obtain ⟨b, h1, _⟩ := DataW.trod_bool he (hcell i hi).2
      exact ⟨b, by simpa using h1⟩
    have hV : ∀ i, i < m → V i = .bool (match V i with | .bool b => b | _ => false) := fun i hi => by
      obtain ⟨b, hb⟩ := each i hi
      rw [hb]
    refine ⟨(List.range n).map (fun i => match V i with | .bool b => b | _ => false), some a, cap, by simp, ⟨some a, cap, by simp, fun i hi => ?_⟩, ?_⟩
    · simp only [List.length_map, List.length_range] at hi
      have hci := (hcell i (by omega)).1
      obtain ⟨xb, xo, spot⟩ := a
      have hspot : spot = none := by simpa [Addr.add] using World.cell?_spot (hcell 0 (by omega)).1
      subst hspot
      rw [Addr.add_lit] at hci
      refine ⟨xb, xo, rfl, ?_, ?_⟩
      · exact hlt (MemPlace.cell xb (xo + i)) (by
          refine List.mem_append_left _ ?_
          simp only [MemPlace.row, List.mem_map, List.mem_range]
          exact ⟨i, by omega, rfl⟩)
      · rw [hci, hV i (by omega)]
        simp
    · have h1 := sized_slice hsz ht hd hu
      simp only [List.length_map, List.length_range, hby, reachBytes] at h1 ⊢
      omega
end
end Go.Proofs.Ytipdgiikifmjdaa
