/-
  No cell of these rows narrows 'for every input' (looked for: loops, veiled, ifaces, maps, wideKeys, modest, calm, conditions, laid).
  DERIVED. THE GIVEN ROWS OF THIS SEAT. 4 by the template 'for every input the law returns true; each argument reads behind the call as it read before'; 0 by the template 'total and deterministic' (their statements: YtclekllaikcglaaGreatTotals.lean).
  GIVEN WITH THE SEED: the statements are not yours to turn. If you find one false, say at which input.
  Laid BY PROGRAM, IN A SANDBOX (cutbox-rows.mjs): the forced cells as the released guide's own fill.sh prints them over the translation 4077c978bfb8a14c… (all of the seat's roots in one cut). By AI agents, Wed Nov 11 2026. No macro, syntax, notation, axiom, sorry.
-/
import Derived.Test.YtclekllaikcglaaGreatChecked
import GoSem.Claim
import GoSem.ClaimJoined
import GoSem.ClaimMapViews
import Derived.JoinedTies
import Derived.KernelRfl
namespace Go.Proofs.YtclekllaikcglaaGreat
/- THE CELL 'sum', in the pinned program and in every row, IS THE sha256 OF THE DUMP (.gsa) THAT YtclekllaikcglaaGreatProg.lean LOADS. Nothing in Lean hashes anything: it is a label: what it is worth is what the hold of that sum in a sandbox is worth. -/
noncomputable def Tryz.pinned : Pinned := { name := "ytclekllaikcglaagreat", sum := "4077c978bfb8a14cdaf29d31e311dda68db47ab86810334286db996762e5c7a6", checked := Tryz.checked }
namespace Rows
def none {H : Type} : Left H := { results := [], args := [] }

/-- 'scriniumlaw15.BarrierWrong': WHATEVER THE INPUT: true; the input reads as it did. -/
def barrierWrongSpec : ChangeSpec := { name := "barrierWrong", fn := fun _ => fun
  | [d1, d2, d3, d4, d5] => { results := [.lit (.bool true)], args := [d1, d2, d3, d4, d5] }
  | _ => none }
def barrierWrongRow : OpenClaim := { program := "ytclekllaikcglaagreat", sum := "4077c978bfb8a14cdaf29d31e311dda68db47ab86810334286db996762e5c7a6", func := "scrinium/scriniumlaw15.BarrierWrong", spec := "barrierWrong", unfollowed := true, recurses := true, apart := false }
def BarrierWrongSaid : Prop := barrierWrongRow.holds Tryz.pinned (OpenSpec.ofChange barrierWrongSpec)

/-- ITS FALSE NEIGHBOUR: 'it returns false'. Refute it at one input. -/
def barrierWrongWrong : ChangeSpec := { name := "barrierWrong", fn := fun _ => fun
  | [d1, d2, d3, d4, d5] => { results := [.lit (.bool false)], args := [d1, d2, d3, d4, d5] }
  | _ => none }
def BarrierWrongWrongFalsely : Prop := barrierWrongRow.holds Tryz.pinned (OpenSpec.ofChange barrierWrongWrong)

/-- 'scriniumlaw15.BarrierBack': WHATEVER THE INPUT: true; the input reads as it did. -/
def barrierBackSpec : ChangeSpec := { name := "barrierBack", fn := fun _ => fun
  | [d1, d2, d3, d4, d5, d6, d7] => { results := [.lit (.bool true)], args := [d1, d2, d3, d4, d5, d6, d7] }
  | _ => none }
def barrierBackRow : OpenClaim := { program := "ytclekllaikcglaagreat", sum := "4077c978bfb8a14cdaf29d31e311dda68db47ab86810334286db996762e5c7a6", func := "scrinium/scriniumlaw15.BarrierBack", spec := "barrierBack", unfollowed := true, recurses := true, apart := false }
def BarrierBackSaid : Prop := barrierBackRow.holds Tryz.pinned (OpenSpec.ofChange barrierBackSpec)

/-- ITS FALSE NEIGHBOUR: 'it returns false'. Refute it at one input. -/
def barrierBackWrong : ChangeSpec := { name := "barrierBack", fn := fun _ => fun
  | [d1, d2, d3, d4, d5, d6, d7] => { results := [.lit (.bool false)], args := [d1, d2, d3, d4, d5, d6, d7] }
  | _ => none }
def BarrierBackWrongFalsely : Prop := barrierBackRow.holds Tryz.pinned (OpenSpec.ofChange barrierBackWrong)

/-- 'scriniumlaw15.BarrierRetire': WHATEVER THE INPUT: true; the input reads as it did. -/
def barrierRetireSpec : ChangeSpec := { name := "barrierRetire", fn := fun _ => fun
  | [d1, d2, d3, d4] => { results := [.lit (.bool true)], args := [d1, d2, d3, d4] }
  | _ => none }
def barrierRetireRow : OpenClaim := { program := "ytclekllaikcglaagreat", sum := "4077c978bfb8a14cdaf29d31e311dda68db47ab86810334286db996762e5c7a6", func := "scrinium/scriniumlaw15.BarrierRetire", spec := "barrierRetire", unfollowed := true, recurses := true, apart := false }
def BarrierRetireSaid : Prop := barrierRetireRow.holds Tryz.pinned (OpenSpec.ofChange barrierRetireSpec)

/-- ITS FALSE NEIGHBOUR: 'it returns false'. Refute it at one input. -/
def barrierRetireWrong : ChangeSpec := { name := "barrierRetire", fn := fun _ => fun
  | [d1, d2, d3, d4] => { results := [.lit (.bool false)], args := [d1, d2, d3, d4] }
  | _ => none }
def BarrierRetireWrongFalsely : Prop := barrierRetireRow.holds Tryz.pinned (OpenSpec.ofChange barrierRetireWrong)

/-- 'scriniumlaw15.BarrierPlays': WHATEVER THE INPUT: true; the input reads as it did. -/
def barrierPlaysSpec : ChangeSpec := { name := "barrierPlays", fn := fun _ => fun
  | [d] => { results := [.lit (.bool true)], args := [d] }
  | _ => none }
def barrierPlaysRow : OpenClaim := { program := "ytclekllaikcglaagreat", sum := "4077c978bfb8a14cdaf29d31e311dda68db47ab86810334286db996762e5c7a6", func := "scrinium/scriniumlaw15.BarrierPlays", spec := "barrierPlays", unfollowed := true, recurses := true, apart := false }
def BarrierPlaysSaid : Prop := barrierPlaysRow.holds Tryz.pinned (OpenSpec.ofChange barrierPlaysSpec)

/-- ITS FALSE NEIGHBOUR: 'it returns false'. Refute it at one input. -/
def barrierPlaysWrong : ChangeSpec := { name := "barrierPlays", fn := fun _ => fun
  | [d] => { results := [.lit (.bool false)], args := [d] }
  | _ => none }
def BarrierPlaysWrongFalsely : Prop := barrierPlaysRow.holds Tryz.pinned (OpenSpec.ofChange barrierPlaysWrong)

/- THE SECOND FORM. 'bulk': how many values and letters a reading holds, each counted each time it is reached (what is shared counts as often as it is met; a slice's spare places count too). A statement '..UptoSaid' is the law's where the arguments, and the package variables that the reading takes, are together of bulk at most 1048576: NARROWER than '..Said'. Prove '..Said' where nothing that the law and all that it calls make is longer than what came in: it says more and counts as full. Else prove '..UptoSaid'. A law counts once. -/
mutual
def uptoBulk {H : Type} : DataW H → Nat
  | .lit (.string bytes) => bytes.length + 1
  | .lit _ => 1
  | .nil => 1
  | .ptr d => uptoBulk d + 1
  | .slice elems spare => uptoBulkAll elems + uptoBulkAll spare + 1
  | .agg parts => uptoBulkAll parts + 1
  | .iface _ d => uptoBulk d + 1
  | .map entries => uptoBulkEntries entries + 1
  | .held _ => 1
def uptoBulkAll {H : Type} : List (DataW H) → Nat
  | [] => 0
  | d :: r => uptoBulk d + uptoBulkAll r
def uptoBulkEntries {H : Type} : List (Lit × DataW H) → Nat
  | [] => 0
  | x :: r => uptoBulkEntry x + uptoBulkEntries r
def uptoBulkEntry {H : Type} : Lit × DataW H → Nat
  | (.string bytes, d) => bytes.length + uptoBulk d + 1
  | (_, d) => uptoBulk d + 1
 end
def uptoSmall : (H : Type) → List (DataW H) → Bool := fun _ ds => decide (uptoBulkAll ds ≤ 1048576)
def OpenSpec.upto (s : _root_.Go.ChangeSpec) : _root_.Go.OpenSpec := { _root_.Go.OpenSpec.ofChange s with cond := some uptoSmall }

/-- 'scriniumlaw15.BarrierWrong', WHERE WHAT IT READS IS OF BULK AT MOST 1048576: true; the input reads as it did. -/
def barrierWrongUptoRow : OpenClaim := { program := "ytclekllaikcglaagreat", sum := "4077c978bfb8a14cdaf29d31e311dda68db47ab86810334286db996762e5c7a6", func := "scrinium/scriniumlaw15.BarrierWrong", spec := "barrierWrong", unfollowed := true, recurses := true, apart := false, narrowed := true }
def BarrierWrongUptoSaid : Prop := barrierWrongUptoRow.holds Tryz.pinned (OpenSpec.upto barrierWrongSpec)

/-- 'scriniumlaw15.BarrierBack', WHERE WHAT IT READS IS OF BULK AT MOST 1048576: true; the input reads as it did. -/
def barrierBackUptoRow : OpenClaim := { program := "ytclekllaikcglaagreat", sum := "4077c978bfb8a14cdaf29d31e311dda68db47ab86810334286db996762e5c7a6", func := "scrinium/scriniumlaw15.BarrierBack", spec := "barrierBack", unfollowed := true, recurses := true, apart := false, narrowed := true }
def BarrierBackUptoSaid : Prop := barrierBackUptoRow.holds Tryz.pinned (OpenSpec.upto barrierBackSpec)

/-- 'scriniumlaw15.BarrierRetire', WHERE WHAT IT READS IS OF BULK AT MOST 1048576: true; the input reads as it did. -/
def barrierRetireUptoRow : OpenClaim := { program := "ytclekllaikcglaagreat", sum := "4077c978bfb8a14cdaf29d31e311dda68db47ab86810334286db996762e5c7a6", func := "scrinium/scriniumlaw15.BarrierRetire", spec := "barrierRetire", unfollowed := true, recurses := true, apart := false, narrowed := true }
def BarrierRetireUptoSaid : Prop := barrierRetireUptoRow.holds Tryz.pinned (OpenSpec.upto barrierRetireSpec)

/-- 'scriniumlaw15.BarrierPlays', WHERE WHAT IT READS IS OF BULK AT MOST 1048576: true; the input reads as it did. -/
def barrierPlaysUptoRow : OpenClaim := { program := "ytclekllaikcglaagreat", sum := "4077c978bfb8a14cdaf29d31e311dda68db47ab86810334286db996762e5c7a6", func := "scrinium/scriniumlaw15.BarrierPlays", spec := "barrierPlays", unfollowed := true, recurses := true, apart := false, narrowed := true }
def BarrierPlaysUptoSaid : Prop := barrierPlaysUptoRow.holds Tryz.pinned (OpenSpec.upto barrierPlaysSpec)

end Rows
end Go.Proofs.YtclekllaikcglaaGreat
