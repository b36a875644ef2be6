/-
  No cell of these rows narrows 'for every input' (looked for: loops, veiled, ifaces, maps, wideKeys, modest, calm, conditions, laid).
  DERIVED. THE GIVEN ROWS OF THIS SEAT. 9 by the template 'for every input the law returns true; each argument reads behind the call as it read before'; 0 by the template 'total and deterministic' (their statements: YtbacamepmilmhaaTotals.lean).
  GIVEN WITH THE SEED: the statements are not yours to turn. If you find one false, say at which input.
  Laid BY PROGRAM, IN A SANDBOX (cutbox-rows.mjs): the forced cells as the released guide's own fill.sh prints them over the translation d66dbf72661c63af… (all of the seat's roots in one cut). By AI agents, Wed Nov 11 2026. No macro, syntax, notation, axiom, sorry.
-/
import Derived.Test.YtbacamepmilmhaaChecked
import GoSem.Claim
import GoSem.ClaimJoined
import GoSem.ClaimMapViews
import Derived.JoinedTies
import Derived.KernelRfl
namespace Go.Proofs.Ytbacamepmilmhaa
/- THE CELL 'sum', in the pinned program and in every row, IS THE sha256 OF THE DUMP (.gsa) THAT YtbacamepmilmhaaProg.lean LOADS. Nothing in Lean hashes anything: it is a label: what it is worth is what the hold of that sum in a sandbox is worth. -/
noncomputable def Try.pinned : Pinned := { name := "ytbacamepmilmhaa", sum := "d66dbf72661c63affa6313bcabd889f6adc5a76b563be978fccf3bc99b0c53c2", checked := Try.checked }
namespace Rows
def none {H : Type} : Left H := { results := [], args := [] }

/-- 'scriniumlaw14.SealCloses': WHATEVER THE INPUT: true; the input reads as it did. -/
def sealClosesSpec : ChangeSpec := { name := "sealCloses", fn := fun _ => fun
  | [d1, d2, d3, d4, d5, d6] => { results := [.lit (.bool true)], args := [d1, d2, d3, d4, d5, d6] }
  | _ => none }
def sealClosesRow : OpenClaim := { program := "ytbacamepmilmhaa", sum := "d66dbf72661c63affa6313bcabd889f6adc5a76b563be978fccf3bc99b0c53c2", func := "scrinium/scriniumlaw14.SealCloses", spec := "sealCloses", unfollowed := true, recurses := true, apart := false }
def SealClosesSaid : Prop := sealClosesRow.holds Try.pinned (OpenSpec.ofChange sealClosesSpec)

/-- ITS FALSE NEIGHBOUR: 'it returns false'. Refute it at one input. -/
def sealClosesWrong : ChangeSpec := { name := "sealCloses", fn := fun _ => fun
  | [d1, d2, d3, d4, d5, d6] => { results := [.lit (.bool false)], args := [d1, d2, d3, d4, d5, d6] }
  | _ => none }
def SealClosesWrongFalsely : Prop := sealClosesRow.holds Try.pinned (OpenSpec.ofChange sealClosesWrong)

/-- 'scriniumlaw14.SealOpens': WHATEVER THE INPUT: true; the input reads as it did. -/
def sealOpensSpec : ChangeSpec := { name := "sealOpens", fn := fun _ => fun
  | [d1, d2, d3, d4, d5, d6, d7, d8, d9, d10] => { results := [.lit (.bool true)], args := [d1, d2, d3, d4, d5, d6, d7, d8, d9, d10] }
  | _ => none }
def sealOpensRow : OpenClaim := { program := "ytbacamepmilmhaa", sum := "d66dbf72661c63affa6313bcabd889f6adc5a76b563be978fccf3bc99b0c53c2", func := "scrinium/scriniumlaw14.SealOpens", spec := "sealOpens", unfollowed := true, recurses := true, apart := false }
def SealOpensSaid : Prop := sealOpensRow.holds Try.pinned (OpenSpec.ofChange sealOpensSpec)

/-- ITS FALSE NEIGHBOUR: 'it returns false'. Refute it at one input. -/
def sealOpensWrong : ChangeSpec := { name := "sealOpens", fn := fun _ => fun
  | [d1, d2, d3, d4, d5, d6, d7, d8, d9, d10] => { results := [.lit (.bool false)], args := [d1, d2, d3, d4, d5, d6, d7, d8, d9, d10] }
  | _ => none }
def SealOpensWrongFalsely : Prop := sealOpensRow.holds Try.pinned (OpenSpec.ofChange sealOpensWrong)

/-- 'scriniumlaw14.SealBlind': WHATEVER THE INPUT: true; the input reads as it did. -/
def sealBlindSpec : ChangeSpec := { name := "sealBlind", fn := fun _ => fun
  | [d1, d2, d3, d4, d5, d6] => { results := [.lit (.bool true)], args := [d1, d2, d3, d4, d5, d6] }
  | _ => none }
def sealBlindRow : OpenClaim := { program := "ytbacamepmilmhaa", sum := "d66dbf72661c63affa6313bcabd889f6adc5a76b563be978fccf3bc99b0c53c2", func := "scrinium/scriniumlaw14.SealBlind", spec := "sealBlind", unfollowed := true, recurses := true, apart := false }
def SealBlindSaid : Prop := sealBlindRow.holds Try.pinned (OpenSpec.ofChange sealBlindSpec)

/-- ITS FALSE NEIGHBOUR: 'it returns false'. Refute it at one input. -/
def sealBlindWrong : ChangeSpec := { name := "sealBlind", fn := fun _ => fun
  | [d1, d2, d3, d4, d5, d6] => { results := [.lit (.bool false)], args := [d1, d2, d3, d4, d5, d6] }
  | _ => none }
def SealBlindWrongFalsely : Prop := sealBlindRow.holds Try.pinned (OpenSpec.ofChange sealBlindWrong)

/-- 'scriniumlaw14.SealBack': WHATEVER THE INPUT: true; the input reads as it did. -/
def sealBackSpec : ChangeSpec := { name := "sealBack", fn := fun _ => fun
  | [d1, d2, d3, d4, d5, d6, d7] => { results := [.lit (.bool true)], args := [d1, d2, d3, d4, d5, d6, d7] }
  | _ => none }
def sealBackRow : OpenClaim := { program := "ytbacamepmilmhaa", sum := "d66dbf72661c63affa6313bcabd889f6adc5a76b563be978fccf3bc99b0c53c2", func := "scrinium/scriniumlaw14.SealBack", spec := "sealBack", unfollowed := true, recurses := true, apart := false }
def SealBackSaid : Prop := sealBackRow.holds Try.pinned (OpenSpec.ofChange sealBackSpec)

/-- ITS FALSE NEIGHBOUR: 'it returns false'. Refute it at one input. -/
def sealBackWrong : ChangeSpec := { name := "sealBack", fn := fun _ => fun
  | [d1, d2, d3, d4, d5, d6, d7] => { results := [.lit (.bool false)], args := [d1, d2, d3, d4, d5, d6, d7] }
  | _ => none }
def SealBackWrongFalsely : Prop := sealBackRow.holds Try.pinned (OpenSpec.ofChange sealBackWrong)

/-- 'scriniumlaw13.KeyringOrder': WHATEVER THE INPUT: true; the input reads as it did. -/
def keyringOrderSpec : ChangeSpec := { name := "keyringOrder", fn := fun _ => fun
  | [d] => { results := [.lit (.bool true)], args := [d] }
  | _ => none }
def keyringOrderRow : OpenClaim := { program := "ytbacamepmilmhaa", sum := "d66dbf72661c63affa6313bcabd889f6adc5a76b563be978fccf3bc99b0c53c2", func := "scrinium/scriniumlaw13.KeyringOrder", spec := "keyringOrder", unfollowed := true, recurses := true, apart := false }
def KeyringOrderSaid : Prop := keyringOrderRow.holds Try.pinned (OpenSpec.ofChange keyringOrderSpec)

/-- ITS FALSE NEIGHBOUR: 'it returns false'. Refute it at one input. -/
def keyringOrderWrong : ChangeSpec := { name := "keyringOrder", fn := fun _ => fun
  | [d] => { results := [.lit (.bool false)], args := [d] }
  | _ => none }
def KeyringOrderWrongFalsely : Prop := keyringOrderRow.holds Try.pinned (OpenSpec.ofChange keyringOrderWrong)

/-- 'scriniumlaw13.KeyringPlays': WHATEVER THE INPUT: true; the input reads as it did. -/
def keyringPlaysSpec : ChangeSpec := { name := "keyringPlays", fn := fun _ => fun
  | [d1, d2, d3] => { results := [.lit (.bool true)], args := [d1, d2, d3] }
  | _ => none }
def keyringPlaysRow : OpenClaim := { program := "ytbacamepmilmhaa", sum := "d66dbf72661c63affa6313bcabd889f6adc5a76b563be978fccf3bc99b0c53c2", func := "scrinium/scriniumlaw13.KeyringPlays", spec := "keyringPlays", unfollowed := true, recurses := true, apart := false }
def KeyringPlaysSaid : Prop := keyringPlaysRow.holds Try.pinned (OpenSpec.ofChange keyringPlaysSpec)

/-- ITS FALSE NEIGHBOUR: 'it returns false'. Refute it at one input. -/
def keyringPlaysWrong : ChangeSpec := { name := "keyringPlays", fn := fun _ => fun
  | [d1, d2, d3] => { results := [.lit (.bool false)], args := [d1, d2, d3] }
  | _ => none }
def KeyringPlaysWrongFalsely : Prop := keyringPlaysRow.holds Try.pinned (OpenSpec.ofChange keyringPlaysWrong)

/-- 'scriniumlaw13.KeyringReads': WHATEVER THE INPUT: true; the input reads as it did. -/
def keyringReadsSpec : ChangeSpec := { name := "keyringReads", fn := fun _ => fun
  | [d1, d2, d3, d4, d5] => { results := [.lit (.bool true)], args := [d1, d2, d3, d4, d5] }
  | _ => none }
def keyringReadsRow : OpenClaim := { program := "ytbacamepmilmhaa", sum := "d66dbf72661c63affa6313bcabd889f6adc5a76b563be978fccf3bc99b0c53c2", func := "scrinium/scriniumlaw13.KeyringReads", spec := "keyringReads", unfollowed := true, recurses := true, apart := false }
def KeyringReadsSaid : Prop := keyringReadsRow.holds Try.pinned (OpenSpec.ofChange keyringReadsSpec)

/-- ITS FALSE NEIGHBOUR: 'it returns false'. Refute it at one input. -/
def keyringReadsWrong : ChangeSpec := { name := "keyringReads", fn := fun _ => fun
  | [d1, d2, d3, d4, d5] => { results := [.lit (.bool false)], args := [d1, d2, d3, d4, d5] }
  | _ => none }
def KeyringReadsWrongFalsely : Prop := keyringReadsRow.holds Try.pinned (OpenSpec.ofChange keyringReadsWrong)

/-- 'scriniumlaw13.KeyringBack': WHATEVER THE INPUT: true; the input reads as it did. -/
def keyringBackSpec : ChangeSpec := { name := "keyringBack", fn := fun _ => fun
  | [d1, d2, d3] => { results := [.lit (.bool true)], args := [d1, d2, d3] }
  | _ => none }
def keyringBackRow : OpenClaim := { program := "ytbacamepmilmhaa", sum := "d66dbf72661c63affa6313bcabd889f6adc5a76b563be978fccf3bc99b0c53c2", func := "scrinium/scriniumlaw13.KeyringBack", spec := "keyringBack", inPlace := ["maps.clone"], unfollowed := true, recurses := true, apart := false }
def KeyringBackSaid : Prop := keyringBackRow.holds Try.pinned (OpenSpec.ofChange keyringBackSpec)

/-- ITS FALSE NEIGHBOUR: 'it returns false'. Refute it at one input. -/
def keyringBackWrong : ChangeSpec := { name := "keyringBack", fn := fun _ => fun
  | [d1, d2, d3] => { results := [.lit (.bool false)], args := [d1, d2, d3] }
  | _ => none }
def KeyringBackWrongFalsely : Prop := keyringBackRow.holds Try.pinned (OpenSpec.ofChange keyringBackWrong)

/-- 'scriniumlaw14.SealRing': WHATEVER THE INPUT: true; the input reads as it did. -/
def sealRingSpec : ChangeSpec := { name := "sealRing", fn := fun _ => fun
  | [d1, d2, d3, d4, d5, d6] => { results := [.lit (.bool true)], args := [d1, d2, d3, d4, d5, d6] }
  | _ => none }
def sealRingRow : OpenClaim := { program := "ytbacamepmilmhaa", sum := "d66dbf72661c63affa6313bcabd889f6adc5a76b563be978fccf3bc99b0c53c2", func := "scrinium/scriniumlaw14.SealRing", spec := "sealRing", inPlace := ["maps.clone"], unfollowed := true, recurses := true, apart := false }
def SealRingSaid : Prop := sealRingRow.holds Try.pinned (OpenSpec.ofChange sealRingSpec)

/-- ITS FALSE NEIGHBOUR: 'it returns false'. Refute it at one input. -/
def sealRingWrong : ChangeSpec := { name := "sealRing", fn := fun _ => fun
  | [d1, d2, d3, d4, d5, d6] => { results := [.lit (.bool false)], args := [d1, d2, d3, d4, d5, d6] }
  | _ => none }
def SealRingWrongFalsely : Prop := sealRingRow.holds Try.pinned (OpenSpec.ofChange sealRingWrong)

/- THE SECOND FORM. 'bulk': how many values and letters a reading holds, each counted each time it is reached (what is shared counts as often as it is met; a slice's spare places count too). A statement '..UptoSaid' is the law's where the arguments, and the package variables that the reading takes, are together of bulk at most 1048576: NARROWER than '..Said'. Prove '..Said' where nothing that the law and all that it calls make is longer than what came in: it says more and counts as full. Else prove '..UptoSaid'. A law counts once. -/
mutual
def uptoBulk {H : Type} : DataW H → Nat
  | .lit (.string bytes) => bytes.length + 1
  | .lit _ => 1
  | .nil => 1
  | .ptr d => uptoBulk d + 1
  | .slice elems spare => uptoBulkAll elems + uptoBulkAll spare + 1
  | .agg parts => uptoBulkAll parts + 1
  | .iface _ d => uptoBulk d + 1
  | .map entries => uptoBulkEntries entries + 1
  | .held _ => 1
def uptoBulkAll {H : Type} : List (DataW H) → Nat
  | [] => 0
  | d :: r => uptoBulk d + uptoBulkAll r
def uptoBulkEntries {H : Type} : List (Lit × DataW H) → Nat
  | [] => 0
  | x :: r => uptoBulkEntry x + uptoBulkEntries r
def uptoBulkEntry {H : Type} : Lit × DataW H → Nat
  | (.string bytes, d) => bytes.length + uptoBulk d + 1
  | (_, d) => uptoBulk d + 1
 end
def uptoSmall : (H : Type) → List (DataW H) → Bool := fun _ ds => decide (uptoBulkAll ds ≤ 1048576)
def OpenSpec.upto (s : _root_.Go.ChangeSpec) : _root_.Go.OpenSpec := { _root_.Go.OpenSpec.ofChange s with cond := some uptoSmall }

/-- 'scriniumlaw14.SealCloses', WHERE WHAT IT READS IS OF BULK AT MOST 1048576: true; the input reads as it did. -/
def sealClosesUptoRow : OpenClaim := { program := "ytbacamepmilmhaa", sum := "d66dbf72661c63affa6313bcabd889f6adc5a76b563be978fccf3bc99b0c53c2", func := "scrinium/scriniumlaw14.SealCloses", spec := "sealCloses", unfollowed := true, recurses := true, apart := false, narrowed := true }
def SealClosesUptoSaid : Prop := sealClosesUptoRow.holds Try.pinned (OpenSpec.upto sealClosesSpec)

/-- 'scriniumlaw14.SealOpens', WHERE WHAT IT READS IS OF BULK AT MOST 1048576: true; the input reads as it did. -/
def sealOpensUptoRow : OpenClaim := { program := "ytbacamepmilmhaa", sum := "d66dbf72661c63affa6313bcabd889f6adc5a76b563be978fccf3bc99b0c53c2", func := "scrinium/scriniumlaw14.SealOpens", spec := "sealOpens", unfollowed := true, recurses := true, apart := false, narrowed := true }
def SealOpensUptoSaid : Prop := sealOpensUptoRow.holds Try.pinned (OpenSpec.upto sealOpensSpec)

/-- 'scriniumlaw14.SealBlind', WHERE WHAT IT READS IS OF BULK AT MOST 1048576: true; the input reads as it did. -/
def sealBlindUptoRow : OpenClaim := { program := "ytbacamepmilmhaa", sum := "d66dbf72661c63affa6313bcabd889f6adc5a76b563be978fccf3bc99b0c53c2", func := "scrinium/scriniumlaw14.SealBlind", spec := "sealBlind", unfollowed := true, recurses := true, apart := false, narrowed := true }
def SealBlindUptoSaid : Prop := sealBlindUptoRow.holds Try.pinned (OpenSpec.upto sealBlindSpec)

/-- 'scriniumlaw14.SealBack', WHERE WHAT IT READS IS OF BULK AT MOST 1048576: true; the input reads as it did. -/
def sealBackUptoRow : OpenClaim := { program := "ytbacamepmilmhaa", sum := "d66dbf72661c63affa6313bcabd889f6adc5a76b563be978fccf3bc99b0c53c2", func := "scrinium/scriniumlaw14.SealBack", spec := "sealBack", unfollowed := true, recurses := true, apart := false, narrowed := true }
def SealBackUptoSaid : Prop := sealBackUptoRow.holds Try.pinned (OpenSpec.upto sealBackSpec)

/-- 'scriniumlaw13.KeyringOrder', WHERE WHAT IT READS IS OF BULK AT MOST 1048576: true; the input reads as it did. -/
def keyringOrderUptoRow : OpenClaim := { program := "ytbacamepmilmhaa", sum := "d66dbf72661c63affa6313bcabd889f6adc5a76b563be978fccf3bc99b0c53c2", func := "scrinium/scriniumlaw13.KeyringOrder", spec := "keyringOrder", unfollowed := true, recurses := true, apart := false, narrowed := true }
def KeyringOrderUptoSaid : Prop := keyringOrderUptoRow.holds Try.pinned (OpenSpec.upto keyringOrderSpec)

/-- 'scriniumlaw13.KeyringPlays', WHERE WHAT IT READS IS OF BULK AT MOST 1048576: true; the input reads as it did. -/
def keyringPlaysUptoRow : OpenClaim := { program := "ytbacamepmilmhaa", sum := "d66dbf72661c63affa6313bcabd889f6adc5a76b563be978fccf3bc99b0c53c2", func := "scrinium/scriniumlaw13.KeyringPlays", spec := "keyringPlays", unfollowed := true, recurses := true, apart := false, narrowed := true }
def KeyringPlaysUptoSaid : Prop := keyringPlaysUptoRow.holds Try.pinned (OpenSpec.upto keyringPlaysSpec)

/-- 'scriniumlaw13.KeyringReads', WHERE WHAT IT READS IS OF BULK AT MOST 1048576: true; the input reads as it did. -/
def keyringReadsUptoRow : OpenClaim := { program := "ytbacamepmilmhaa", sum := "d66dbf72661c63affa6313bcabd889f6adc5a76b563be978fccf3bc99b0c53c2", func := "scrinium/scriniumlaw13.KeyringReads", spec := "keyringReads", unfollowed := true, recurses := true, apart := false, narrowed := true }
def KeyringReadsUptoSaid : Prop := keyringReadsUptoRow.holds Try.pinned (OpenSpec.upto keyringReadsSpec)

/-- 'scriniumlaw13.KeyringBack', WHERE WHAT IT READS IS OF BULK AT MOST 1048576: true; the input reads as it did. -/
def keyringBackUptoRow : OpenClaim := { program := "ytbacamepmilmhaa", sum := "d66dbf72661c63affa6313bcabd889f6adc5a76b563be978fccf3bc99b0c53c2", func := "scrinium/scriniumlaw13.KeyringBack", spec := "keyringBack", inPlace := ["maps.clone"], unfollowed := true, recurses := true, apart := false, narrowed := true }
def KeyringBackUptoSaid : Prop := keyringBackUptoRow.holds Try.pinned (OpenSpec.upto keyringBackSpec)

/-- 'scriniumlaw14.SealRing', WHERE WHAT IT READS IS OF BULK AT MOST 1048576: true; the input reads as it did. -/
def sealRingUptoRow : OpenClaim := { program := "ytbacamepmilmhaa", sum := "d66dbf72661c63affa6313bcabd889f6adc5a76b563be978fccf3bc99b0c53c2", func := "scrinium/scriniumlaw14.SealRing", spec := "sealRing", inPlace := ["maps.clone"], unfollowed := true, recurses := true, apart := false, narrowed := true }
def SealRingUptoSaid : Prop := sealRingUptoRow.holds Try.pinned (OpenSpec.upto sealRingSpec)

end Rows
end Go.Proofs.Ytbacamepmilmhaa
