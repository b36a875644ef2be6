/-
  No cell of these rows narrows 'for every input' (looked for: loops, veiled, ifaces, maps, wideKeys, modest, calm, conditions, laid).
  DERIVED. THE GIVEN ROWS OF THIS SEAT. 8 by the template 'for every input the law returns true; each argument reads behind the call as it read before'; 0 by the template 'total and deterministic' (their statements: YtgncnplgjhaojaaTotals.lean).
  GIVEN WITH THE SEED: the statements are not yours to turn. If you find one false, say at which input.
  Laid BY PROGRAM, IN A SANDBOX (cutbox-rows.mjs): the forced cells as the released guide's own fill.sh prints them over the translation 51225cdfddfcf8a7… (all of the seat's roots in one cut). By AI agents, Wed Nov 11 2026. No macro, syntax, notation, axiom, sorry.
-/
import Derived.Test.YtgncnplgjhaojaaChecked
import GoSem.Claim
import GoSem.ClaimJoined
import GoSem.ClaimMapViews
import Derived.JoinedTies
import Derived.KernelRfl
namespace Go.Proofs.Ytgncnplgjhaojaa
/- THE CELL 'sum', in the pinned program and in every row, IS THE sha256 OF THE DUMP (.gsa) THAT YtgncnplgjhaojaaProg.lean LOADS. Nothing in Lean hashes anything: it is a label: what it is worth is what the hold of that sum in a sandbox is worth. -/
noncomputable def Try.pinned : Pinned := { name := "ytgncnplgjhaojaa", sum := "51225cdfddfcf8a7118e7eb6fb586a0865ec8226865ced37f888c47a0bc35d11", checked := Try.checked }
namespace Rows
def none {H : Type} : Left H := { results := [], args := [] }

/-- 'scriniumlaw04.AesBytes': WHATEVER THE INPUT: true; the input reads as it did. -/
def aesBytesSpec : ChangeSpec := { name := "aesBytes", fn := fun _ => fun
  | [d1, d2] => { results := [.lit (.bool true)], args := [d1, d2] }
  | _ => none }
def aesBytesRow : OpenClaim := { program := "ytgncnplgjhaojaa", sum := "51225cdfddfcf8a7118e7eb6fb586a0865ec8226865ced37f888c47a0bc35d11", func := "scrinium/scriniumlaw04.AesBytes", spec := "aesBytes", apart := false }
def AesBytesSaid : Prop := aesBytesRow.holds Try.pinned (OpenSpec.ofChange aesBytesSpec)

/-- ITS FALSE NEIGHBOUR: 'it returns false'. Refute it at one input. -/
def aesBytesWrong : ChangeSpec := { name := "aesBytes", fn := fun _ => fun
  | [d1, d2] => { results := [.lit (.bool false)], args := [d1, d2] }
  | _ => none }
def AesBytesWrongFalsely : Prop := aesBytesRow.holds Try.pinned (OpenSpec.ofChange aesBytesWrong)

/-- 'scriniumlaw04.AesOnce': WHATEVER THE INPUT: true; the input reads as it did. -/
def aesOnceSpec : ChangeSpec := { name := "aesOnce", fn := fun _ => fun
  | [d1, d2, d3] => { results := [.lit (.bool true)], args := [d1, d2, d3] }
  | _ => none }
def aesOnceRow : OpenClaim := { program := "ytgncnplgjhaojaa", sum := "51225cdfddfcf8a7118e7eb6fb586a0865ec8226865ced37f888c47a0bc35d11", func := "scrinium/scriniumlaw04.AesOnce", spec := "aesOnce", apart := false }
def AesOnceSaid : Prop := aesOnceRow.holds Try.pinned (OpenSpec.ofChange aesOnceSpec)

/-- ITS FALSE NEIGHBOUR: 'it returns false'. Refute it at one input. -/
def aesOnceWrong : ChangeSpec := { name := "aesOnce", fn := fun _ => fun
  | [d1, d2, d3] => { results := [.lit (.bool false)], args := [d1, d2, d3] }
  | _ => none }
def AesOnceWrongFalsely : Prop := aesOnceRow.holds Try.pinned (OpenSpec.ofChange aesOnceWrong)

/-- 'scriniumlaw04.AesBlocks': WHATEVER THE INPUT: true; the input reads as it did. -/
def aesBlocksSpec : ChangeSpec := { name := "aesBlocks", fn := fun _ => fun
  | [d1, d2, d3] => { results := [.lit (.bool true)], args := [d1, d2, d3] }
  | _ => none }
def aesBlocksRow : OpenClaim := { program := "ytgncnplgjhaojaa", sum := "51225cdfddfcf8a7118e7eb6fb586a0865ec8226865ced37f888c47a0bc35d11", func := "scrinium/scriniumlaw04.AesBlocks", spec := "aesBlocks", apart := false }
def AesBlocksSaid : Prop := aesBlocksRow.holds Try.pinned (OpenSpec.ofChange aesBlocksSpec)

/-- ITS FALSE NEIGHBOUR: 'it returns false'. Refute it at one input. -/
def aesBlocksWrong : ChangeSpec := { name := "aesBlocks", fn := fun _ => fun
  | [d1, d2, d3] => { results := [.lit (.bool false)], args := [d1, d2, d3] }
  | _ => none }
def AesBlocksWrongFalsely : Prop := aesBlocksRow.holds Try.pinned (OpenSpec.ofChange aesBlocksWrong)

/-- 'scriniumlaw04.AesBack': WHATEVER THE INPUT: true; the input reads as it did. -/
def aesBackSpec : ChangeSpec := { name := "aesBack", fn := fun _ => fun
  | [d1, d2, d3, d4, d5, d6] => { results := [.lit (.bool true)], args := [d1, d2, d3, d4, d5, d6] }
  | _ => none }
def aesBackRow : OpenClaim := { program := "ytgncnplgjhaojaa", sum := "51225cdfddfcf8a7118e7eb6fb586a0865ec8226865ced37f888c47a0bc35d11", func := "scrinium/scriniumlaw04.AesBack", spec := "aesBack", apart := false }
def AesBackSaid : Prop := aesBackRow.holds Try.pinned (OpenSpec.ofChange aesBackSpec)

/-- ITS FALSE NEIGHBOUR: 'it returns false'. Refute it at one input. -/
def aesBackWrong : ChangeSpec := { name := "aesBack", fn := fun _ => fun
  | [d1, d2, d3, d4, d5, d6] => { results := [.lit (.bool false)], args := [d1, d2, d3, d4, d5, d6] }
  | _ => none }
def AesBackWrongFalsely : Prop := aesBackRow.holds Try.pinned (OpenSpec.ofChange aesBackWrong)

/-- 'scriniumlaw05.CtrTells': WHATEVER THE INPUT: true; the input reads as it did. -/
def ctrTellsSpec : ChangeSpec := { name := "ctrTells", fn := fun _ => fun
  | [d1, d2, d3, d4, d5, d6] => { results := [.lit (.bool true)], args := [d1, d2, d3, d4, d5, d6] }
  | _ => none }
def ctrTellsRow : OpenClaim := { program := "ytgncnplgjhaojaa", sum := "51225cdfddfcf8a7118e7eb6fb586a0865ec8226865ced37f888c47a0bc35d11", func := "scrinium/scriniumlaw05.CtrTells", spec := "ctrTells", unfollowed := true, recurses := true, apart := false }
def CtrTellsSaid : Prop := ctrTellsRow.holds Try.pinned (OpenSpec.ofChange ctrTellsSpec)

/-- ITS FALSE NEIGHBOUR: 'it returns false'. Refute it at one input. -/
def ctrTellsWrong : ChangeSpec := { name := "ctrTells", fn := fun _ => fun
  | [d1, d2, d3, d4, d5, d6] => { results := [.lit (.bool false)], args := [d1, d2, d3, d4, d5, d6] }
  | _ => none }
def CtrTellsWrongFalsely : Prop := ctrTellsRow.holds Try.pinned (OpenSpec.ofChange ctrTellsWrong)

/-- 'scriniumlaw05.CtrBack': WHATEVER THE INPUT: true; the input reads as it did. -/
def ctrBackSpec : ChangeSpec := { name := "ctrBack", fn := fun _ => fun
  | [d1, d2, d3, d4, d5] => { results := [.lit (.bool true)], args := [d1, d2, d3, d4, d5] }
  | _ => none }
def ctrBackRow : OpenClaim := { program := "ytgncnplgjhaojaa", sum := "51225cdfddfcf8a7118e7eb6fb586a0865ec8226865ced37f888c47a0bc35d11", func := "scrinium/scriniumlaw05.CtrBack", spec := "ctrBack", unfollowed := true, recurses := true, apart := false }
def CtrBackSaid : Prop := ctrBackRow.holds Try.pinned (OpenSpec.ofChange ctrBackSpec)

/-- ITS FALSE NEIGHBOUR: 'it returns false'. Refute it at one input. -/
def ctrBackWrong : ChangeSpec := { name := "ctrBack", fn := fun _ => fun
  | [d1, d2, d3, d4, d5] => { results := [.lit (.bool false)], args := [d1, d2, d3, d4, d5] }
  | _ => none }
def CtrBackWrongFalsely : Prop := ctrBackRow.holds Try.pinned (OpenSpec.ofChange ctrBackWrong)

/-- 'scriniumlaw05.CtrEnds': WHATEVER THE INPUT: true; the input reads as it did. -/
def ctrEndsSpec : ChangeSpec := { name := "ctrEnds", fn := fun _ => fun
  | [d1, d2, d3] => { results := [.lit (.bool true)], args := [d1, d2, d3] }
  | _ => none }
def ctrEndsRow : OpenClaim := { program := "ytgncnplgjhaojaa", sum := "51225cdfddfcf8a7118e7eb6fb586a0865ec8226865ced37f888c47a0bc35d11", func := "scrinium/scriniumlaw05.CtrEnds", spec := "ctrEnds", unfollowed := true, recurses := true, apart := false }
def CtrEndsSaid : Prop := ctrEndsRow.holds Try.pinned (OpenSpec.ofChange ctrEndsSpec)

/-- ITS FALSE NEIGHBOUR: 'it returns false'. Refute it at one input. -/
def ctrEndsWrong : ChangeSpec := { name := "ctrEnds", fn := fun _ => fun
  | [d1, d2, d3] => { results := [.lit (.bool false)], args := [d1, d2, d3] }
  | _ => none }
def CtrEndsWrongFalsely : Prop := ctrEndsRow.holds Try.pinned (OpenSpec.ofChange ctrEndsWrong)

/-- 'scriniumlaw05.CtrTwo': WHATEVER THE INPUT: true; the input reads as it did. -/
def ctrTwoSpec : ChangeSpec := { name := "ctrTwo", fn := fun _ => fun
  | [d1, d2, d3, d4, d5, d6, d7] => { results := [.lit (.bool true)], args := [d1, d2, d3, d4, d5, d6, d7] }
  | _ => none }
def ctrTwoRow : OpenClaim := { program := "ytgncnplgjhaojaa", sum := "51225cdfddfcf8a7118e7eb6fb586a0865ec8226865ced37f888c47a0bc35d11", func := "scrinium/scriniumlaw05.CtrTwo", spec := "ctrTwo", unfollowed := true, recurses := true, apart := false }
def CtrTwoSaid : Prop := ctrTwoRow.holds Try.pinned (OpenSpec.ofChange ctrTwoSpec)

/-- ITS FALSE NEIGHBOUR: 'it returns false'. Refute it at one input. -/
def ctrTwoWrong : ChangeSpec := { name := "ctrTwo", fn := fun _ => fun
  | [d1, d2, d3, d4, d5, d6, d7] => { results := [.lit (.bool false)], args := [d1, d2, d3, d4, d5, d6, d7] }
  | _ => none }
def CtrTwoWrongFalsely : Prop := ctrTwoRow.holds Try.pinned (OpenSpec.ofChange ctrTwoWrong)

/- THE SECOND FORM. 'bulk': how many values and letters a reading holds, each counted each time it is reached (what is shared counts as often as it is met; a slice's spare places count too). A statement '..UptoSaid' is the law's where the arguments, and the package variables that the reading takes, are together of bulk at most 1048576: NARROWER than '..Said'. Prove '..Said' where nothing that the law and all that it calls make is longer than what came in: it says more and counts as full. Else prove '..UptoSaid'. A law counts once. -/
mutual
def uptoBulk {H : Type} : DataW H → Nat
  | .lit (.string bytes) => bytes.length + 1
  | .lit _ => 1
  | .nil => 1
  | .ptr d => uptoBulk d + 1
  | .slice elems spare => uptoBulkAll elems + uptoBulkAll spare + 1
  | .agg parts => uptoBulkAll parts + 1
  | .iface _ d => uptoBulk d + 1
  | .map entries => uptoBulkEntries entries + 1
  | .held _ => 1
def uptoBulkAll {H : Type} : List (DataW H) → Nat
  | [] => 0
  | d :: r => uptoBulk d + uptoBulkAll r
def uptoBulkEntries {H : Type} : List (Lit × DataW H) → Nat
  | [] => 0
  | x :: r => uptoBulkEntry x + uptoBulkEntries r
def uptoBulkEntry {H : Type} : Lit × DataW H → Nat
  | (.string bytes, d) => bytes.length + uptoBulk d + 1
  | (_, d) => uptoBulk d + 1
 end
def uptoSmall : (H : Type) → List (DataW H) → Bool := fun _ ds => decide (uptoBulkAll ds ≤ 1048576)
def OpenSpec.upto (s : _root_.Go.ChangeSpec) : _root_.Go.OpenSpec := { _root_.Go.OpenSpec.ofChange s with cond := some uptoSmall }

/-- 'scriniumlaw04.AesBytes', WHERE WHAT IT READS IS OF BULK AT MOST 1048576: true; the input reads as it did. -/
def aesBytesUptoRow : OpenClaim := { program := "ytgncnplgjhaojaa", sum := "51225cdfddfcf8a7118e7eb6fb586a0865ec8226865ced37f888c47a0bc35d11", func := "scrinium/scriniumlaw04.AesBytes", spec := "aesBytes", apart := false, narrowed := true }
def AesBytesUptoSaid : Prop := aesBytesUptoRow.holds Try.pinned (OpenSpec.upto aesBytesSpec)

/-- 'scriniumlaw04.AesOnce', WHERE WHAT IT READS IS OF BULK AT MOST 1048576: true; the input reads as it did. -/
def aesOnceUptoRow : OpenClaim := { program := "ytgncnplgjhaojaa", sum := "51225cdfddfcf8a7118e7eb6fb586a0865ec8226865ced37f888c47a0bc35d11", func := "scrinium/scriniumlaw04.AesOnce", spec := "aesOnce", apart := false, narrowed := true }
def AesOnceUptoSaid : Prop := aesOnceUptoRow.holds Try.pinned (OpenSpec.upto aesOnceSpec)

/-- 'scriniumlaw04.AesBlocks', WHERE WHAT IT READS IS OF BULK AT MOST 1048576: true; the input reads as it did. -/
def aesBlocksUptoRow : OpenClaim := { program := "ytgncnplgjhaojaa", sum := "51225cdfddfcf8a7118e7eb6fb586a0865ec8226865ced37f888c47a0bc35d11", func := "scrinium/scriniumlaw04.AesBlocks", spec := "aesBlocks", apart := false, narrowed := true }
def AesBlocksUptoSaid : Prop := aesBlocksUptoRow.holds Try.pinned (OpenSpec.upto aesBlocksSpec)

/-- 'scriniumlaw04.AesBack', WHERE WHAT IT READS IS OF BULK AT MOST 1048576: true; the input reads as it did. -/
def aesBackUptoRow : OpenClaim := { program := "ytgncnplgjhaojaa", sum := "51225cdfddfcf8a7118e7eb6fb586a0865ec8226865ced37f888c47a0bc35d11", func := "scrinium/scriniumlaw04.AesBack", spec := "aesBack", apart := false, narrowed := true }
def AesBackUptoSaid : Prop := aesBackUptoRow.holds Try.pinned (OpenSpec.upto aesBackSpec)

/-- 'scriniumlaw05.CtrTells', WHERE WHAT IT READS IS OF BULK AT MOST 1048576: true; the input reads as it did. -/
def ctrTellsUptoRow : OpenClaim := { program := "ytgncnplgjhaojaa", sum := "51225cdfddfcf8a7118e7eb6fb586a0865ec8226865ced37f888c47a0bc35d11", func := "scrinium/scriniumlaw05.CtrTells", spec := "ctrTells", unfollowed := true, recurses := true, apart := false, narrowed := true }
def CtrTellsUptoSaid : Prop := ctrTellsUptoRow.holds Try.pinned (OpenSpec.upto ctrTellsSpec)

/-- 'scriniumlaw05.CtrBack', WHERE WHAT IT READS IS OF BULK AT MOST 1048576: true; the input reads as it did. -/
def ctrBackUptoRow : OpenClaim := { program := "ytgncnplgjhaojaa", sum := "51225cdfddfcf8a7118e7eb6fb586a0865ec8226865ced37f888c47a0bc35d11", func := "scrinium/scriniumlaw05.CtrBack", spec := "ctrBack", unfollowed := true, recurses := true, apart := false, narrowed := true }
def CtrBackUptoSaid : Prop := ctrBackUptoRow.holds Try.pinned (OpenSpec.upto ctrBackSpec)

/-- 'scriniumlaw05.CtrEnds', WHERE WHAT IT READS IS OF BULK AT MOST 1048576: true; the input reads as it did. -/
def ctrEndsUptoRow : OpenClaim := { program := "ytgncnplgjhaojaa", sum := "51225cdfddfcf8a7118e7eb6fb586a0865ec8226865ced37f888c47a0bc35d11", func := "scrinium/scriniumlaw05.CtrEnds", spec := "ctrEnds", unfollowed := true, recurses := true, apart := false, narrowed := true }
def CtrEndsUptoSaid : Prop := ctrEndsUptoRow.holds Try.pinned (OpenSpec.upto ctrEndsSpec)

/-- 'scriniumlaw05.CtrTwo', WHERE WHAT IT READS IS OF BULK AT MOST 1048576: true; the input reads as it did. -/
def ctrTwoUptoRow : OpenClaim := { program := "ytgncnplgjhaojaa", sum := "51225cdfddfcf8a7118e7eb6fb586a0865ec8226865ced37f888c47a0bc35d11", func := "scrinium/scriniumlaw05.CtrTwo", spec := "ctrTwo", unfollowed := true, recurses := true, apart := false, narrowed := true }
def CtrTwoUptoSaid : Prop := ctrTwoUptoRow.holds Try.pinned (OpenSpec.upto ctrTwoSpec)

end Rows
end Go.Proofs.Ytgncnplgjhaojaa
