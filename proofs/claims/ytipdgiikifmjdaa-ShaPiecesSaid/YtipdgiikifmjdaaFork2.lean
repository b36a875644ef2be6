/- Regions that draw their order: guarded operations. -/
import Derived.Test.YtipdgiikifmjdaaFork
namespace Go.Proofs.Ytipdgiikifmjdaa
open Go
namespace Loud
section
variable {P : Program} {C : World → Prop} {L : Nat → Bool} {n : Nat} {l : List Oper} {Q : Exit → Act → World → Prop} {f : Nat} {listed : Array Bool} {a : Act} {w : World}
theorem wf_gq (k : Nat) {o : Oper} (hk : l.toArray[k]? = some o) (hB : stepB l.toArray L n k listed = true) (hg : Region.wanted o (yielded l.toArray a.tmps) = true) (hL : L k = false)
    (h : ∃ v, (∀ w, C w → (execOp a.eval o).run P w = .ok (.value v) w) ∧ WF P l C L n Q f (listed.setIfInBounds k true) (a.put o.dst v) w) : WF P l C L n Q (f + 1) listed a w :=
  let ⟨v, hv, hh⟩ := h
  wf_step hk hB (.inl ⟨v, .inr ⟨hg, hL, fun w hw => .inl (hv w hw)⟩, hh⟩)
theorem wf_skip (k : Nat) {o : Oper} (hk : l.toArray[k]? = some o) (hB : stepB l.toArray L n k listed = true) (hg : Region.wanted o (yielded l.toArray a.tmps) = false)
    (h : WF P l C L n Q f (listed.setIfInBounds k true) (a.put o.dst undef) w) : WF P l C L n Q (f + 1) listed a w :=
  wf_step hk hB (.inl ⟨undef, .inl ⟨hg, rfl⟩, h⟩)
end
end Loud
end Go.Proofs.Ytipdgiikifmjdaa
