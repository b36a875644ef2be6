/- From a law's walk to its row: more kinds of parameters. -/
import Derived.Test.YtipdgiikifmjdaaRowSl
namespace Go.Proofs.Ytipdgiikifmjdaa
open Go Go.ChangeShapes Go.WideShapes Go.ChangeAt Go.RowKit
theorem rng_i8 {n : Int} (h : (Lit.int .i8 n).wf = true) : -128 ≤ n ∧ n ≤ 127 := wf_range h
section
variable {H : Type} {enc : TypeId × Value → H} {P : Program}
/-- A slice of bytes that came in. -/
theorem u8s_in {W : World} {base : Nat} {t e : TypeId} {v : Value} {d : DataW H} {p : List MemPlace} (hu : P.underlying t = some (.slice e)) (he : P.underlying e = some (.int .u8)) (hc : P.cellsOf e = 1) (hby : P.bytesOf e = 1)
    (hval : Value.okWide P W .any base t v) (h : DataW.Trod enc P W 0 (fun _ => true) true t v d p) (hlt : ∀ x ∈ p, x.block < W.heap.size)
    {ts : List TypeId} {ds : List (DataW H)} (hsz : (DataW.weightsEach P ts ds).all (· ≤ reachBytes) = true) {j : Nat} (ht : ts[j]? = some t) (hd : ds[j]? = some d) :
    ∃ (l : List UInt8) (ad : Option Addr) (cap : Nat), v = .slice ad l.length cap ∧ Sl W (.slice ad l.length cap) (l.map byteV) ∧ l.length ≤ 140737488351232 := by
  obtain ⟨a0, n, cap, rfl⟩ := okWide_slice hu hval
  obtain ⟨fuel, hf⟩ := h
  rcases Deep.open_slice1 hu hc hf with ⟨hcs, hx⟩ | ⟨a, len', cap', m, q, V, D, Pl, hcs, _, hl, hm, hz, hx, hcell⟩
  · simp [Value.cells] at hcs
    obtain ⟨rfl, rfl, rfl⟩ := hcs
    exact ⟨[], none, 0, rfl, Sl.nil W, by simp⟩
  · simp [Value.cells] at hcs
    obtain ⟨rfl, rfl, rfl⟩ := hcs
    simp only [Prod.mk.injEq] at hx
    obtain ⟨rfl, rfl⟩ := hx
    simp only [if_true] at hz
    have each : ∀ i, i < m → ∃ b : UInt8, V i = byteV b := fun i hi => by
      obtain ⟨z, h1, _, hw⟩ := DataW.trod_int he (hcell i hi).2
      obtain ⟨b, rfl⟩ := nat_u8 hw
      exact ⟨b, by simpa [byteV] using h1⟩
    obtain ⟨B, hB⟩ := Deep.choose_lt each
    refine ⟨(List.range n).map B, some a, cap, by simp, ⟨some a, cap, by simp, fun i hi => ?_⟩, ?_⟩
    · simp only [List.length_map, List.length_range] at hi
      have hci := (hcell i (by omega)).1
      obtain ⟨xb, xo, spot⟩ := a
      have hspot : spot = none := by simpa [Addr.add] using World.cell?_spot (hcell 0 (by omega)).1
      subst hspot
      rw [Addr.add_lit] at hci
      refine ⟨xb, xo, rfl, ?_, ?_⟩
      · exact hlt (MemPlace.cell xb (xo + i)) (by
          refine List.mem_append_left _ ?_
          simp only [MemPlace.row, List.mem_map, List.mem_range]
          exact ⟨i, by omega, rfl⟩)
      · rw [hci, hB i (by omega)]
        simp
    · have h1 := sized_slice hsz ht hd hu
      simp only [List.length_map, List.length_range, hby, reachBytes] at h1 ⊢
      omega
end
end Go.Proofs.Ytipdgiikifmjdaa
