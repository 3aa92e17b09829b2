/-
  No cell of these rows narrows 'for every input' (looked for: loops, veiled, ifaces, maps, wideKeys, modest, calm, conditions, laid).
  DERIVED. THE GIVEN ROWS OF THIS SEAT. 5 by the template 'for every input the law returns true; each argument reads behind the call as it read before'; 0 by the template 'total and deterministic' (their statements: YtpdckafighfadaaTotals.lean).
  GIVEN WITH THE SEED: the statements are not yours to turn. If you find one false, say at which input.
  Laid BY PROGRAM, IN A SANDBOX (cutbox-rows.mjs): the forced cells as the released guide's own fill.sh prints them over the translation e41e8e37e9b99b2b… (all of the seat's roots in one cut). By AI agents, Wed Nov 11 2026. No macro, syntax, notation, axiom, sorry.
-/
import Derived.Test.YtpdckafighfadaaChecked
import GoSem.Claim
import GoSem.ClaimJoined
import GoSem.ClaimMapViews
import Derived.JoinedTies
import Derived.KernelRfl
namespace Go.Proofs.Ytpdckafighfadaa
/- THE CELL 'sum', in the pinned program and in every row, IS THE sha256 OF THE DUMP (.gsa) THAT YtpdckafighfadaaProg.lean LOADS. Nothing in Lean hashes anything: it is a label: what it is worth is what the hold of that sum in a sandbox is worth. -/
noncomputable def Try.pinned : Pinned := { name := "ytpdckafighfadaa", sum := "e41e8e37e9b99b2b32354b6434dab70e5711daa84382fa33e505c07919a24bc2", checked := Try.checked }
namespace Rows
def none {H : Type} : Left H := { results := [], args := [] }

/-- 'sedimentlaw11.RecLays': WHATEVER THE INPUT: true; the input reads as it did. -/
def recLaysSpec : ChangeSpec := { name := "recLays", fn := fun _ => fun
  | [d] => { results := [.lit (.bool true)], args := [d] }
  | _ => none }
def recLaysRow : OpenClaim := { program := "ytpdckafighfadaa", sum := "e41e8e37e9b99b2b32354b6434dab70e5711daa84382fa33e505c07919a24bc2", func := "sediment/sedimentlaw11.RecLays", spec := "recLays", unfollowed := true, recurses := true, apart := false }
def RecLaysSaid : Prop := recLaysRow.holds Try.pinned (OpenSpec.ofChange recLaysSpec)

/-- ITS FALSE NEIGHBOUR: 'it returns false'. Refute it at one input. -/
def recLaysWrong : ChangeSpec := { name := "recLays", fn := fun _ => fun
  | [d] => { results := [.lit (.bool false)], args := [d] }
  | _ => none }
def RecLaysWrongFalsely : Prop := recLaysRow.holds Try.pinned (OpenSpec.ofChange recLaysWrong)

/-- 'sedimentlaw11.RecReads': WHATEVER THE INPUT: true; the input reads as it did. -/
def recReadsSpec : ChangeSpec := { name := "recReads", fn := fun _ => fun
  | [d1, d2] => { results := [.lit (.bool true)], args := [d1, d2] }
  | _ => none }
def recReadsRow : OpenClaim := { program := "ytpdckafighfadaa", sum := "e41e8e37e9b99b2b32354b6434dab70e5711daa84382fa33e505c07919a24bc2", func := "sediment/sedimentlaw11.RecReads", spec := "recReads", unfollowed := true, recurses := true, apart := false }
def RecReadsSaid : Prop := recReadsRow.holds Try.pinned (OpenSpec.ofChange recReadsSpec)

/-- ITS FALSE NEIGHBOUR: 'it returns false'. Refute it at one input. -/
def recReadsWrong : ChangeSpec := { name := "recReads", fn := fun _ => fun
  | [d1, d2] => { results := [.lit (.bool false)], args := [d1, d2] }
  | _ => none }
def RecReadsWrongFalsely : Prop := recReadsRow.holds Try.pinned (OpenSpec.ofChange recReadsWrong)

/-- 'sedimentlaw11.RecBack': WHATEVER THE INPUT: true; the input reads as it did. -/
def recBackSpec : ChangeSpec := { name := "recBack", fn := fun _ => fun
  | [d1, d2] => { results := [.lit (.bool true)], args := [d1, d2] }
  | _ => none }
def recBackRow : OpenClaim := { program := "ytpdckafighfadaa", sum := "e41e8e37e9b99b2b32354b6434dab70e5711daa84382fa33e505c07919a24bc2", func := "sediment/sedimentlaw11.RecBack", spec := "recBack", unfollowed := true, recurses := true, apart := false }
def RecBackSaid : Prop := recBackRow.holds Try.pinned (OpenSpec.ofChange recBackSpec)

/-- ITS FALSE NEIGHBOUR: 'it returns false'. Refute it at one input. -/
def recBackWrong : ChangeSpec := { name := "recBack", fn := fun _ => fun
  | [d1, d2] => { results := [.lit (.bool false)], args := [d1, d2] }
  | _ => none }
def RecBackWrongFalsely : Prop := recBackRow.holds Try.pinned (OpenSpec.ofChange recBackWrong)

/-- 'sedimentlaw11.RecRise': WHATEVER THE INPUT: true; the input reads as it did. -/
def recRiseSpec : ChangeSpec := { name := "recRise", fn := fun _ => fun
  | [d1, d2] => { results := [.lit (.bool true)], args := [d1, d2] }
  | _ => none }
def recRiseRow : OpenClaim := { program := "ytpdckafighfadaa", sum := "e41e8e37e9b99b2b32354b6434dab70e5711daa84382fa33e505c07919a24bc2", func := "sediment/sedimentlaw11.RecRise", spec := "recRise", unfollowed := true, recurses := true, apart := false }
def RecRiseSaid : Prop := recRiseRow.holds Try.pinned (OpenSpec.ofChange recRiseSpec)

/-- ITS FALSE NEIGHBOUR: 'it returns false'. Refute it at one input. -/
def recRiseWrong : ChangeSpec := { name := "recRise", fn := fun _ => fun
  | [d1, d2] => { results := [.lit (.bool false)], args := [d1, d2] }
  | _ => none }
def RecRiseWrongFalsely : Prop := recRiseRow.holds Try.pinned (OpenSpec.ofChange recRiseWrong)

/-- 'sedimentlaw11.RecKnown': WHATEVER THE INPUT: true; the input reads as it did. -/
def recKnownSpec : ChangeSpec := { name := "recKnown", fn := fun _ => fun
  | [] => { results := [.lit (.bool true)], args := [] }
  | _ => none }
def recKnownRow : OpenClaim := { program := "ytpdckafighfadaa", sum := "e41e8e37e9b99b2b32354b6434dab70e5711daa84382fa33e505c07919a24bc2", func := "sediment/sedimentlaw11.RecKnown", spec := "recKnown", unfollowed := true, recurses := true, apart := false }
def RecKnownSaid : Prop := recKnownRow.holds Try.pinned (OpenSpec.ofChange recKnownSpec)

/-- ITS FALSE NEIGHBOUR: 'it returns false'. Refute it at one input. -/
def recKnownWrong : ChangeSpec := { name := "recKnown", fn := fun _ => fun
  | [] => { results := [.lit (.bool false)], args := [] }
  | _ => none }
def RecKnownWrongFalsely : Prop := recKnownRow.holds Try.pinned (OpenSpec.ofChange recKnownWrong)

/- THE SECOND FORM. 'bulk': how many values and letters a reading holds, each counted each time it is reached (what is shared counts as often as it is met; a slice's spare places count too). A statement '..UptoSaid' is the law's where the arguments, and the package variables that the reading takes, are together of bulk at most 1048576: NARROWER than '..Said'. Prove '..Said' where nothing that the law and all that it calls make is longer than what came in: it says more and counts as full. Else prove '..UptoSaid'. A law counts once. -/
mutual
def uptoBulk {H : Type} : DataW H → Nat
  | .lit (.string bytes) => bytes.length + 1
  | .lit _ => 1
  | .nil => 1
  | .ptr d => uptoBulk d + 1
  | .slice elems spare => uptoBulkAll elems + uptoBulkAll spare + 1
  | .agg parts => uptoBulkAll parts + 1
  | .iface _ d => uptoBulk d + 1
  | .map entries => uptoBulkEntries entries + 1
  | .held _ => 1
def uptoBulkAll {H : Type} : List (DataW H) → Nat
  | [] => 0
  | d :: r => uptoBulk d + uptoBulkAll r
def uptoBulkEntries {H : Type} : List (Lit × DataW H) → Nat
  | [] => 0
  | x :: r => uptoBulkEntry x + uptoBulkEntries r
def uptoBulkEntry {H : Type} : Lit × DataW H → Nat
  | (.string bytes, d) => bytes.length + uptoBulk d + 1
  | (_, d) => uptoBulk d + 1
 end
def uptoSmall : (H : Type) → List (DataW H) → Bool := fun _ ds => decide (uptoBulkAll ds ≤ 1048576)
def OpenSpec.upto (s : _root_.Go.ChangeSpec) : _root_.Go.OpenSpec := { _root_.Go.OpenSpec.ofChange s with cond := some uptoSmall }

/-- 'sedimentlaw11.RecLays', WHERE WHAT IT READS IS OF BULK AT MOST 1048576: true; the input reads as it did. -/
def recLaysUptoRow : OpenClaim := { program := "ytpdckafighfadaa", sum := "e41e8e37e9b99b2b32354b6434dab70e5711daa84382fa33e505c07919a24bc2", func := "sediment/sedimentlaw11.RecLays", spec := "recLays", unfollowed := true, recurses := true, apart := false, narrowed := true }
def RecLaysUptoSaid : Prop := recLaysUptoRow.holds Try.pinned (OpenSpec.upto recLaysSpec)

/-- 'sedimentlaw11.RecReads', WHERE WHAT IT READS IS OF BULK AT MOST 1048576: true; the input reads as it did. -/
def recReadsUptoRow : OpenClaim := { program := "ytpdckafighfadaa", sum := "e41e8e37e9b99b2b32354b6434dab70e5711daa84382fa33e505c07919a24bc2", func := "sediment/sedimentlaw11.RecReads", spec := "recReads", unfollowed := true, recurses := true, apart := false, narrowed := true }
def RecReadsUptoSaid : Prop := recReadsUptoRow.holds Try.pinned (OpenSpec.upto recReadsSpec)

/-- 'sedimentlaw11.RecBack', WHERE WHAT IT READS IS OF BULK AT MOST 1048576: true; the input reads as it did. -/
def recBackUptoRow : OpenClaim := { program := "ytpdckafighfadaa", sum := "e41e8e37e9b99b2b32354b6434dab70e5711daa84382fa33e505c07919a24bc2", func := "sediment/sedimentlaw11.RecBack", spec := "recBack", unfollowed := true, recurses := true, apart := false, narrowed := true }
def RecBackUptoSaid : Prop := recBackUptoRow.holds Try.pinned (OpenSpec.upto recBackSpec)

/-- 'sedimentlaw11.RecRise', WHERE WHAT IT READS IS OF BULK AT MOST 1048576: true; the input reads as it did. -/
def recRiseUptoRow : OpenClaim := { program := "ytpdckafighfadaa", sum := "e41e8e37e9b99b2b32354b6434dab70e5711daa84382fa33e505c07919a24bc2", func := "sediment/sedimentlaw11.RecRise", spec := "recRise", unfollowed := true, recurses := true, apart := false, narrowed := true }
def RecRiseUptoSaid : Prop := recRiseUptoRow.holds Try.pinned (OpenSpec.upto recRiseSpec)

/-- 'sedimentlaw11.RecKnown', WHERE WHAT IT READS IS OF BULK AT MOST 1048576: true; the input reads as it did. -/
def recKnownUptoRow : OpenClaim := { program := "ytpdckafighfadaa", sum := "e41e8e37e9b99b2b32354b6434dab70e5711daa84382fa33e505c07919a24bc2", func := "sediment/sedimentlaw11.RecKnown", spec := "recKnown", unfollowed := true, recurses := true, apart := false, narrowed := true }
def RecKnownUptoSaid : Prop := recKnownUptoRow.holds Try.pinned (OpenSpec.upto recKnownSpec)

end Rows
end Go.Proofs.Ytpdckafighfadaa
