/-
  No cell of these rows narrows 'for every input' (looked for: loops, veiled, ifaces, maps, wideKeys, modest, calm, conditions, laid).
  DERIVED. THE GIVEN ROWS OF THIS SEAT. 3 by the template 'for every input the law returns true; each argument reads behind the call as it read before'; 0 by the template 'total and deterministic' (their statements: YtechbadkbiognaaTotals.lean).
  GIVEN WITH THE SEED: the statements are not yours to turn. If you find one false, say at which input.
  Laid BY PROGRAM, IN A SANDBOX (cutbox-rows.mjs): the forced cells as the released guide's own fill.sh prints them over the translation 1c2131f541cee9a6… (all of the seat's roots in one cut). By AI agents, Wed Nov 11 2026. No macro, syntax, notation, axiom, sorry.
-/
import Derived.Test.YtechbadkbiognaaChecked
import GoSem.Claim
import GoSem.ClaimJoined
import GoSem.ClaimMapViews
import Derived.JoinedTies
import Derived.KernelRfl
namespace Go.Proofs.Ytechbadkbiognaa
/- THE CELL 'sum', in the pinned program and in every row, IS THE sha256 OF THE DUMP (.gsa) THAT YtechbadkbiognaaProg.lean LOADS. Nothing in Lean hashes anything: it is a label: what it is worth is what the hold of that sum in a sandbox is worth. -/
noncomputable def Try.pinned : Pinned := { name := "ytechbadkbiognaa", sum := "1c2131f541cee9a6a55aa9804580b0c295010bbe18d41e00628c1b65294e4343", checked := Try.checked }
namespace Rows
def none {H : Type} : Left H := { results := [], args := [] }

/-- 'sedimentlaw03.FilesPrefix': WHATEVER THE INPUT: true; the input reads as it did. -/
def filesPrefixSpec : ChangeSpec := { name := "filesPrefix", fn := fun _ => fun
  | [d1, d2] => { results := [.lit (.bool true)], args := [d1, d2] }
  | _ => none }
def filesPrefixRow : OpenClaim := { program := "ytechbadkbiognaa", sum := "1c2131f541cee9a6a55aa9804580b0c295010bbe18d41e00628c1b65294e4343", func := "sediment/sedimentlaw03.FilesPrefix", spec := "filesPrefix", unfollowed := true, recurses := true, apart := false }
def FilesPrefixSaid : Prop := filesPrefixRow.holds Try.pinned (OpenSpec.ofChange filesPrefixSpec)

/-- ITS FALSE NEIGHBOUR: 'it returns false'. Refute it at one input. -/
def filesPrefixWrong : ChangeSpec := { name := "filesPrefix", fn := fun _ => fun
  | [d1, d2] => { results := [.lit (.bool false)], args := [d1, d2] }
  | _ => none }
def FilesPrefixWrongFalsely : Prop := filesPrefixRow.holds Try.pinned (OpenSpec.ofChange filesPrefixWrong)

/-- 'sedimentlaw03.FilesAtomic': WHATEVER THE INPUT: true; the input reads as it did. -/
def filesAtomicSpec : ChangeSpec := { name := "filesAtomic", fn := fun _ => fun
  | [d1, d2, d3] => { results := [.lit (.bool true)], args := [d1, d2, d3] }
  | _ => none }
def filesAtomicRow : OpenClaim := { program := "ytechbadkbiognaa", sum := "1c2131f541cee9a6a55aa9804580b0c295010bbe18d41e00628c1b65294e4343", func := "sediment/sedimentlaw03.FilesAtomic", spec := "filesAtomic", unfollowed := true, recurses := true, apart := false }
def FilesAtomicSaid : Prop := filesAtomicRow.holds Try.pinned (OpenSpec.ofChange filesAtomicSpec)

/-- ITS FALSE NEIGHBOUR: 'it returns false'. Refute it at one input. -/
def filesAtomicWrong : ChangeSpec := { name := "filesAtomic", fn := fun _ => fun
  | [d1, d2, d3] => { results := [.lit (.bool false)], args := [d1, d2, d3] }
  | _ => none }
def FilesAtomicWrongFalsely : Prop := filesAtomicRow.holds Try.pinned (OpenSpec.ofChange filesAtomicWrong)

/-- 'sedimentlaw03.FilesRoom': WHATEVER THE INPUT: true; the input reads as it did. -/
def filesRoomSpec : ChangeSpec := { name := "filesRoom", fn := fun _ => fun
  | [d1, d2] => { results := [.lit (.bool true)], args := [d1, d2] }
  | _ => none }
def filesRoomRow : OpenClaim := { program := "ytechbadkbiognaa", sum := "1c2131f541cee9a6a55aa9804580b0c295010bbe18d41e00628c1b65294e4343", func := "sediment/sedimentlaw03.FilesRoom", spec := "filesRoom", unfollowed := true, recurses := true, apart := false }
def FilesRoomSaid : Prop := filesRoomRow.holds Try.pinned (OpenSpec.ofChange filesRoomSpec)

/-- ITS FALSE NEIGHBOUR: 'it returns false'. Refute it at one input. -/
def filesRoomWrong : ChangeSpec := { name := "filesRoom", fn := fun _ => fun
  | [d1, d2] => { results := [.lit (.bool false)], args := [d1, d2] }
  | _ => none }
def FilesRoomWrongFalsely : Prop := filesRoomRow.holds Try.pinned (OpenSpec.ofChange filesRoomWrong)

/- THE SECOND FORM. 'bulk': how many values and letters a reading holds, each counted each time it is reached (what is shared counts as often as it is met; a slice's spare places count too). A statement '..UptoSaid' is the law's where the arguments, and the package variables that the reading takes, are together of bulk at most 1048576: NARROWER than '..Said'. Prove '..Said' where nothing that the law and all that it calls make is longer than what came in: it says more and counts as full. Else prove '..UptoSaid'. A law counts once. -/
mutual
def uptoBulk {H : Type} : DataW H → Nat
  | .lit (.string bytes) => bytes.length + 1
  | .lit _ => 1
  | .nil => 1
  | .ptr d => uptoBulk d + 1
  | .slice elems spare => uptoBulkAll elems + uptoBulkAll spare + 1
  | .agg parts => uptoBulkAll parts + 1
  | .iface _ d => uptoBulk d + 1
  | .map entries => uptoBulkEntries entries + 1
  | .held _ => 1
def uptoBulkAll {H : Type} : List (DataW H) → Nat
  | [] => 0
  | d :: r => uptoBulk d + uptoBulkAll r
def uptoBulkEntries {H : Type} : List (Lit × DataW H) → Nat
  | [] => 0
  | x :: r => uptoBulkEntry x + uptoBulkEntries r
def uptoBulkEntry {H : Type} : Lit × DataW H → Nat
  | (.string bytes, d) => bytes.length + uptoBulk d + 1
  | (_, d) => uptoBulk d + 1
 end
def uptoSmall : (H : Type) → List (DataW H) → Bool := fun _ ds => decide (uptoBulkAll ds ≤ 1048576)
def OpenSpec.upto (s : _root_.Go.ChangeSpec) : _root_.Go.OpenSpec := { _root_.Go.OpenSpec.ofChange s with cond := some uptoSmall }

/-- 'sedimentlaw03.FilesPrefix', WHERE WHAT IT READS IS OF BULK AT MOST 1048576: true; the input reads as it did. -/
def filesPrefixUptoRow : OpenClaim := { program := "ytechbadkbiognaa", sum := "1c2131f541cee9a6a55aa9804580b0c295010bbe18d41e00628c1b65294e4343", func := "sediment/sedimentlaw03.FilesPrefix", spec := "filesPrefix", unfollowed := true, recurses := true, apart := false, narrowed := true }
def FilesPrefixUptoSaid : Prop := filesPrefixUptoRow.holds Try.pinned (OpenSpec.upto filesPrefixSpec)

/-- 'sedimentlaw03.FilesAtomic', WHERE WHAT IT READS IS OF BULK AT MOST 1048576: true; the input reads as it did. -/
def filesAtomicUptoRow : OpenClaim := { program := "ytechbadkbiognaa", sum := "1c2131f541cee9a6a55aa9804580b0c295010bbe18d41e00628c1b65294e4343", func := "sediment/sedimentlaw03.FilesAtomic", spec := "filesAtomic", unfollowed := true, recurses := true, apart := false, narrowed := true }
def FilesAtomicUptoSaid : Prop := filesAtomicUptoRow.holds Try.pinned (OpenSpec.upto filesAtomicSpec)

/-- 'sedimentlaw03.FilesRoom', WHERE WHAT IT READS IS OF BULK AT MOST 1048576: true; the input reads as it did. -/
def filesRoomUptoRow : OpenClaim := { program := "ytechbadkbiognaa", sum := "1c2131f541cee9a6a55aa9804580b0c295010bbe18d41e00628c1b65294e4343", func := "sediment/sedimentlaw03.FilesRoom", spec := "filesRoom", unfollowed := true, recurses := true, apart := false, narrowed := true }
def FilesRoomUptoSaid : Prop := filesRoomUptoRow.holds Try.pinned (OpenSpec.upto filesRoomSpec)

end Rows
end Go.Proofs.Ytechbadkbiognaa
