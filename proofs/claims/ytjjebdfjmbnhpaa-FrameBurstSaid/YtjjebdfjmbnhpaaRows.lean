/-
  No cell of these rows narrows 'for every input' (looked for: loops, veiled, ifaces, maps, wideKeys, modest, calm, conditions, laid).
  DERIVED. THE GIVEN ROWS OF THIS SEAT. 11 by the template 'for every input the law returns true; each argument reads behind the call as it read before'; 0 by the template 'total and deterministic' (their statements: YtjjebdfjmbnhpaaTotals.lean).
  GIVEN WITH THE SEED: the statements are not yours to turn. If you find one false, say at which input.
  Laid BY PROGRAM, IN A SANDBOX (cutbox-rows.mjs): the forced cells as the released guide's own fill.sh prints them over the translation eead96e6162afcd8… (all of the seat's roots in one cut). By AI agents, Wed Nov 11 2026. No macro, syntax, notation, axiom, sorry.
-/
import Derived.Test.YtjjebdfjmbnhpaaChecked
import GoSem.Claim
import GoSem.ClaimJoined
import GoSem.ClaimMapViews
import Derived.JoinedTies
import Derived.KernelRfl
namespace Go.Proofs.Ytjjebdfjmbnhpaa
/- THE CELL 'sum', in the pinned program and in every row, IS THE sha256 OF THE DUMP (.gsa) THAT YtjjebdfjmbnhpaaProg.lean LOADS. Nothing in Lean hashes anything: it is a label: what it is worth is what the hold of that sum in a sandbox is worth. -/
noncomputable def Try.pinned : Pinned := { name := "ytjjebdfjmbnhpaa", sum := "eead96e6162afcd8dffab7e8903e07eb284cef1bb8ff582d6eab212ff7dea583", checked := Try.checked }
namespace Rows
def none {H : Type} : Left H := { results := [], args := [] }

/-- 'sedimentlaw14.HoldsIs': WHATEVER THE INPUT: true; the input reads as it did. -/
def holdsIsSpec : ChangeSpec := { name := "holdsIs", fn := fun _ => fun
  | [d1, d2] => { results := [.lit (.bool true)], args := [d1, d2] }
  | _ => none }
def holdsIsRow : OpenClaim := { program := "ytjjebdfjmbnhpaa", sum := "eead96e6162afcd8dffab7e8903e07eb284cef1bb8ff582d6eab212ff7dea583", func := "sediment/sedimentlaw14.HoldsIs", spec := "holdsIs", unfollowed := true, recurses := true, apart := false }
def HoldsIsSaid : Prop := holdsIsRow.holds Try.pinned (OpenSpec.ofChange holdsIsSpec)

/-- ITS FALSE NEIGHBOUR: 'it returns false'. Refute it at one input. -/
def holdsIsWrong : ChangeSpec := { name := "holdsIs", fn := fun _ => fun
  | [d1, d2] => { results := [.lit (.bool false)], args := [d1, d2] }
  | _ => none }
def HoldsIsWrongFalsely : Prop := holdsIsRow.holds Try.pinned (OpenSpec.ofChange holdsIsWrong)

/-- 'sedimentlaw14.HoldsOne': WHATEVER THE INPUT: true; the input reads as it did. -/
def holdsOneSpec : ChangeSpec := { name := "holdsOne", fn := fun _ => fun
  | [d1, d2, d3] => { results := [.lit (.bool true)], args := [d1, d2, d3] }
  | _ => none }
def holdsOneRow : OpenClaim := { program := "ytjjebdfjmbnhpaa", sum := "eead96e6162afcd8dffab7e8903e07eb284cef1bb8ff582d6eab212ff7dea583", func := "sediment/sedimentlaw14.HoldsOne", spec := "holdsOne", unfollowed := true, recurses := true, apart := false }
def HoldsOneSaid : Prop := holdsOneRow.holds Try.pinned (OpenSpec.ofChange holdsOneSpec)

/-- ITS FALSE NEIGHBOUR: 'it returns false'. Refute it at one input. -/
def holdsOneWrong : ChangeSpec := { name := "holdsOne", fn := fun _ => fun
  | [d1, d2, d3] => { results := [.lit (.bool false)], args := [d1, d2, d3] }
  | _ => none }
def HoldsOneWrongFalsely : Prop := holdsOneRow.holds Try.pinned (OpenSpec.ofChange holdsOneWrong)

/-- 'sedimentlaw04.FrameIs': WHATEVER THE INPUT: true; the input reads as it did. -/
def frameIsSpec : ChangeSpec := { name := "frameIs", fn := fun _ => fun
  | [d1, d2] => { results := [.lit (.bool true)], args := [d1, d2] }
  | _ => none }
def frameIsRow : OpenClaim := { program := "ytjjebdfjmbnhpaa", sum := "eead96e6162afcd8dffab7e8903e07eb284cef1bb8ff582d6eab212ff7dea583", func := "sediment/sedimentlaw04.FrameIs", spec := "frameIs", unfollowed := true, recurses := true, apart := false }
def FrameIsSaid : Prop := frameIsRow.holds Try.pinned (OpenSpec.ofChange frameIsSpec)

/-- ITS FALSE NEIGHBOUR: 'it returns false'. Refute it at one input. -/
def frameIsWrong : ChangeSpec := { name := "frameIs", fn := fun _ => fun
  | [d1, d2] => { results := [.lit (.bool false)], args := [d1, d2] }
  | _ => none }
def FrameIsWrongFalsely : Prop := frameIsRow.holds Try.pinned (OpenSpec.ofChange frameIsWrong)

/-- 'sedimentlaw04.FrameRows': WHATEVER THE INPUT: true; the input reads as it did. -/
def frameRowsSpec : ChangeSpec := { name := "frameRows", fn := fun _ => fun
  | [d1, d2] => { results := [.lit (.bool true)], args := [d1, d2] }
  | _ => none }
def frameRowsRow : OpenClaim := { program := "ytjjebdfjmbnhpaa", sum := "eead96e6162afcd8dffab7e8903e07eb284cef1bb8ff582d6eab212ff7dea583", func := "sediment/sedimentlaw04.FrameRows", spec := "frameRows", unfollowed := true, recurses := true, apart := false }
def FrameRowsSaid : Prop := frameRowsRow.holds Try.pinned (OpenSpec.ofChange frameRowsSpec)

/-- ITS FALSE NEIGHBOUR: 'it returns false'. Refute it at one input. -/
def frameRowsWrong : ChangeSpec := { name := "frameRows", fn := fun _ => fun
  | [d1, d2] => { results := [.lit (.bool false)], args := [d1, d2] }
  | _ => none }
def FrameRowsWrongFalsely : Prop := frameRowsRow.holds Try.pinned (OpenSpec.ofChange frameRowsWrong)

/-- 'sedimentlaw04.FrameBurst': WHATEVER THE INPUT: true; the input reads as it did. -/
def frameBurstSpec : ChangeSpec := { name := "frameBurst", fn := fun _ => fun
  | [d1, d2, d3] => { results := [.lit (.bool true)], args := [d1, d2, d3] }
  | _ => none }
def frameBurstRow : OpenClaim := { program := "ytjjebdfjmbnhpaa", sum := "eead96e6162afcd8dffab7e8903e07eb284cef1bb8ff582d6eab212ff7dea583", func := "sediment/sedimentlaw04.FrameBurst", spec := "frameBurst", unfollowed := true, recurses := true, apart := false }
def FrameBurstSaid : Prop := frameBurstRow.holds Try.pinned (OpenSpec.ofChange frameBurstSpec)

/-- ITS FALSE NEIGHBOUR: 'it returns false'. Refute it at one input. -/
def frameBurstWrong : ChangeSpec := { name := "frameBurst", fn := fun _ => fun
  | [d1, d2, d3] => { results := [.lit (.bool false)], args := [d1, d2, d3] }
  | _ => none }
def FrameBurstWrongFalsely : Prop := frameBurstRow.holds Try.pinned (OpenSpec.ofChange frameBurstWrong)

/-- 'sedimentlaw30.NetPlays': WHATEVER THE INPUT: true; the input reads as it did. -/
def netPlaysSpec : ChangeSpec := { name := "netPlays", fn := fun _ => fun
  | [d1, d2] => { results := [.lit (.bool true)], args := [d1, d2] }
  | _ => none }
def netPlaysRow : OpenClaim := { program := "ytjjebdfjmbnhpaa", sum := "eead96e6162afcd8dffab7e8903e07eb284cef1bb8ff582d6eab212ff7dea583", func := "sediment/sedimentlaw30.NetPlays", spec := "netPlays", apart := false }
def NetPlaysSaid : Prop := netPlaysRow.holds Try.pinned (OpenSpec.ofChange netPlaysSpec)

/-- ITS FALSE NEIGHBOUR: 'it returns false'. Refute it at one input. -/
def netPlaysWrong : ChangeSpec := { name := "netPlays", fn := fun _ => fun
  | [d1, d2] => { results := [.lit (.bool false)], args := [d1, d2] }
  | _ => none }
def NetPlaysWrongFalsely : Prop := netPlaysRow.holds Try.pinned (OpenSpec.ofChange netPlaysWrong)

/-- 'sedimentlaw30.NetKeeps': WHATEVER THE INPUT: true; the input reads as it did. -/
def netKeepsSpec : ChangeSpec := { name := "netKeeps", fn := fun _ => fun
  | [d] => { results := [.lit (.bool true)], args := [d] }
  | _ => none }
def netKeepsRow : OpenClaim := { program := "ytjjebdfjmbnhpaa", sum := "eead96e6162afcd8dffab7e8903e07eb284cef1bb8ff582d6eab212ff7dea583", func := "sediment/sedimentlaw30.NetKeeps", spec := "netKeeps", apart := false }
def NetKeepsSaid : Prop := netKeepsRow.holds Try.pinned (OpenSpec.ofChange netKeepsSpec)

/-- ITS FALSE NEIGHBOUR: 'it returns false'. Refute it at one input. -/
def netKeepsWrong : ChangeSpec := { name := "netKeeps", fn := fun _ => fun
  | [d] => { results := [.lit (.bool false)], args := [d] }
  | _ => none }
def NetKeepsWrongFalsely : Prop := netKeepsRow.holds Try.pinned (OpenSpec.ofChange netKeepsWrong)

/-- 'sedimentlaw30.NetOrder': WHATEVER THE INPUT: true; the input reads as it did. -/
def netOrderSpec : ChangeSpec := { name := "netOrder", fn := fun _ => fun
  | [d1, d2] => { results := [.lit (.bool true)], args := [d1, d2] }
  | _ => none }
def netOrderRow : OpenClaim := { program := "ytjjebdfjmbnhpaa", sum := "eead96e6162afcd8dffab7e8903e07eb284cef1bb8ff582d6eab212ff7dea583", func := "sediment/sedimentlaw30.NetOrder", spec := "netOrder", apart := false }
def NetOrderSaid : Prop := netOrderRow.holds Try.pinned (OpenSpec.ofChange netOrderSpec)

/-- ITS FALSE NEIGHBOUR: 'it returns false'. Refute it at one input. -/
def netOrderWrong : ChangeSpec := { name := "netOrder", fn := fun _ => fun
  | [d1, d2] => { results := [.lit (.bool false)], args := [d1, d2] }
  | _ => none }
def NetOrderWrongFalsely : Prop := netOrderRow.holds Try.pinned (OpenSpec.ofChange netOrderWrong)

/-- 'sedimentlaw14.HoldsKnown': WHATEVER THE INPUT: true; the input reads as it did. -/
def holdsKnownSpec : ChangeSpec := { name := "holdsKnown", fn := fun _ => fun
  | [] => { results := [.lit (.bool true)], args := [] }
  | _ => none }
def holdsKnownRow : OpenClaim := { program := "ytjjebdfjmbnhpaa", sum := "eead96e6162afcd8dffab7e8903e07eb284cef1bb8ff582d6eab212ff7dea583", func := "sediment/sedimentlaw14.HoldsKnown", spec := "holdsKnown", inPlace := ["internal/abi.NoEscape", "internal/bytealg.MakeNoZero"], unfollowed := true, recurses := true, apart := false }
def HoldsKnownSaid : Prop := holdsKnownRow.holds Try.pinned (OpenSpec.ofChange holdsKnownSpec)

/-- ITS FALSE NEIGHBOUR: 'it returns false'. Refute it at one input. -/
def holdsKnownWrong : ChangeSpec := { name := "holdsKnown", fn := fun _ => fun
  | [] => { results := [.lit (.bool false)], args := [] }
  | _ => none }
def HoldsKnownWrongFalsely : Prop := holdsKnownRow.holds Try.pinned (OpenSpec.ofChange holdsKnownWrong)

/-- 'sedimentlaw04.FrameKnown': WHATEVER THE INPUT: true; the input reads as it did. -/
def frameKnownSpec : ChangeSpec := { name := "frameKnown", fn := fun _ => fun
  | [] => { results := [.lit (.bool true)], args := [] }
  | _ => none }
def frameKnownRow : OpenClaim := { program := "ytjjebdfjmbnhpaa", sum := "eead96e6162afcd8dffab7e8903e07eb284cef1bb8ff582d6eab212ff7dea583", func := "sediment/sedimentlaw04.FrameKnown", spec := "frameKnown", inPlace := ["internal/abi.NoEscape", "internal/bytealg.MakeNoZero"], unfollowed := true, recurses := true, apart := false }
def FrameKnownSaid : Prop := frameKnownRow.holds Try.pinned (OpenSpec.ofChange frameKnownSpec)

/-- ITS FALSE NEIGHBOUR: 'it returns false'. Refute it at one input. -/
def frameKnownWrong : ChangeSpec := { name := "frameKnown", fn := fun _ => fun
  | [] => { results := [.lit (.bool false)], args := [] }
  | _ => none }
def FrameKnownWrongFalsely : Prop := frameKnownRow.holds Try.pinned (OpenSpec.ofChange frameKnownWrong)

/-- 'sedimentlaw30.NetKnown': WHATEVER THE INPUT: true; the input reads as it did. -/
def netKnownSpec : ChangeSpec := { name := "netKnown", fn := fun _ => fun
  | [] => { results := [.lit (.bool true)], args := [] }
  | _ => none }
def netKnownRow : OpenClaim := { program := "ytjjebdfjmbnhpaa", sum := "eead96e6162afcd8dffab7e8903e07eb284cef1bb8ff582d6eab212ff7dea583", func := "sediment/sedimentlaw30.NetKnown", spec := "netKnown", inPlace := ["internal/abi.NoEscape", "internal/bytealg.MakeNoZero"], apart := false }
def NetKnownSaid : Prop := netKnownRow.holds Try.pinned (OpenSpec.ofChange netKnownSpec)

/-- ITS FALSE NEIGHBOUR: 'it returns false'. Refute it at one input. -/
def netKnownWrong : ChangeSpec := { name := "netKnown", fn := fun _ => fun
  | [] => { results := [.lit (.bool false)], args := [] }
  | _ => none }
def NetKnownWrongFalsely : Prop := netKnownRow.holds Try.pinned (OpenSpec.ofChange netKnownWrong)

/- THE SECOND FORM. 'bulk': how many values and letters a reading holds, each counted each time it is reached (what is shared counts as often as it is met; a slice's spare places count too). A statement '..UptoSaid' is the law's where the arguments, and the package variables that the reading takes, are together of bulk at most 1048576: NARROWER than '..Said'. Prove '..Said' where nothing that the law and all that it calls make is longer than what came in: it says more and counts as full. Else prove '..UptoSaid'. A law counts once. -/
mutual
def uptoBulk {H : Type} : DataW H → Nat
  | .lit (.string bytes) => bytes.length + 1
  | .lit _ => 1
  | .nil => 1
  | .ptr d => uptoBulk d + 1
  | .slice elems spare => uptoBulkAll elems + uptoBulkAll spare + 1
  | .agg parts => uptoBulkAll parts + 1
  | .iface _ d => uptoBulk d + 1
  | .map entries => uptoBulkEntries entries + 1
  | .held _ => 1
def uptoBulkAll {H : Type} : List (DataW H) → Nat
  | [] => 0
  | d :: r => uptoBulk d + uptoBulkAll r
def uptoBulkEntries {H : Type} : List (Lit × DataW H) → Nat
  | [] => 0
  | x :: r => uptoBulkEntry x + uptoBulkEntries r
def uptoBulkEntry {H : Type} : Lit × DataW H → Nat
  | (.string bytes, d) => bytes.length + uptoBulk d + 1
  | (_, d) => uptoBulk d + 1
 end
def uptoSmall : (H : Type) → List (DataW H) → Bool := fun _ ds => decide (uptoBulkAll ds ≤ 1048576)
def OpenSpec.upto (s : _root_.Go.ChangeSpec) : _root_.Go.OpenSpec := { _root_.Go.OpenSpec.ofChange s with cond := some uptoSmall }

/-- 'sedimentlaw14.HoldsIs', WHERE WHAT IT READS IS OF BULK AT MOST 1048576: true; the input reads as it did. -/
def holdsIsUptoRow : OpenClaim := { program := "ytjjebdfjmbnhpaa", sum := "eead96e6162afcd8dffab7e8903e07eb284cef1bb8ff582d6eab212ff7dea583", func := "sediment/sedimentlaw14.HoldsIs", spec := "holdsIs", unfollowed := true, recurses := true, apart := false, narrowed := true }
def HoldsIsUptoSaid : Prop := holdsIsUptoRow.holds Try.pinned (OpenSpec.upto holdsIsSpec)

/-- 'sedimentlaw14.HoldsOne', WHERE WHAT IT READS IS OF BULK AT MOST 1048576: true; the input reads as it did. -/
def holdsOneUptoRow : OpenClaim := { program := "ytjjebdfjmbnhpaa", sum := "eead96e6162afcd8dffab7e8903e07eb284cef1bb8ff582d6eab212ff7dea583", func := "sediment/sedimentlaw14.HoldsOne", spec := "holdsOne", unfollowed := true, recurses := true, apart := false, narrowed := true }
def HoldsOneUptoSaid : Prop := holdsOneUptoRow.holds Try.pinned (OpenSpec.upto holdsOneSpec)

/-- 'sedimentlaw04.FrameIs', WHERE WHAT IT READS IS OF BULK AT MOST 1048576: true; the input reads as it did. -/
def frameIsUptoRow : OpenClaim := { program := "ytjjebdfjmbnhpaa", sum := "eead96e6162afcd8dffab7e8903e07eb284cef1bb8ff582d6eab212ff7dea583", func := "sediment/sedimentlaw04.FrameIs", spec := "frameIs", unfollowed := true, recurses := true, apart := false, narrowed := true }
def FrameIsUptoSaid : Prop := frameIsUptoRow.holds Try.pinned (OpenSpec.upto frameIsSpec)

/-- 'sedimentlaw04.FrameRows', WHERE WHAT IT READS IS OF BULK AT MOST 1048576: true; the input reads as it did. -/
def frameRowsUptoRow : OpenClaim := { program := "ytjjebdfjmbnhpaa", sum := "eead96e6162afcd8dffab7e8903e07eb284cef1bb8ff582d6eab212ff7dea583", func := "sediment/sedimentlaw04.FrameRows", spec := "frameRows", unfollowed := true, recurses := true, apart := false, narrowed := true }
def FrameRowsUptoSaid : Prop := frameRowsUptoRow.holds Try.pinned (OpenSpec.upto frameRowsSpec)

/-- 'sedimentlaw04.FrameBurst', WHERE WHAT IT READS IS OF BULK AT MOST 1048576: true; the input reads as it did. -/
def frameBurstUptoRow : OpenClaim := { program := "ytjjebdfjmbnhpaa", sum := "eead96e6162afcd8dffab7e8903e07eb284cef1bb8ff582d6eab212ff7dea583", func := "sediment/sedimentlaw04.FrameBurst", spec := "frameBurst", unfollowed := true, recurses := true, apart := false, narrowed := true }
def FrameBurstUptoSaid : Prop := frameBurstUptoRow.holds Try.pinned (OpenSpec.upto frameBurstSpec)

/-- 'sedimentlaw30.NetPlays', WHERE WHAT IT READS IS OF BULK AT MOST 1048576: true; the input reads as it did. -/
def netPlaysUptoRow : OpenClaim := { program := "ytjjebdfjmbnhpaa", sum := "eead96e6162afcd8dffab7e8903e07eb284cef1bb8ff582d6eab212ff7dea583", func := "sediment/sedimentlaw30.NetPlays", spec := "netPlays", apart := false, narrowed := true }
def NetPlaysUptoSaid : Prop := netPlaysUptoRow.holds Try.pinned (OpenSpec.upto netPlaysSpec)

/-- 'sedimentlaw30.NetKeeps', WHERE WHAT IT READS IS OF BULK AT MOST 1048576: true; the input reads as it did. -/
def netKeepsUptoRow : OpenClaim := { program := "ytjjebdfjmbnhpaa", sum := "eead96e6162afcd8dffab7e8903e07eb284cef1bb8ff582d6eab212ff7dea583", func := "sediment/sedimentlaw30.NetKeeps", spec := "netKeeps", apart := false, narrowed := true }
def NetKeepsUptoSaid : Prop := netKeepsUptoRow.holds Try.pinned (OpenSpec.upto netKeepsSpec)

/-- 'sedimentlaw30.NetOrder', WHERE WHAT IT READS IS OF BULK AT MOST 1048576: true; the input reads as it did. -/
def netOrderUptoRow : OpenClaim := { program := "ytjjebdfjmbnhpaa", sum := "eead96e6162afcd8dffab7e8903e07eb284cef1bb8ff582d6eab212ff7dea583", func := "sediment/sedimentlaw30.NetOrder", spec := "netOrder", apart := false, narrowed := true }
def NetOrderUptoSaid : Prop := netOrderUptoRow.holds Try.pinned (OpenSpec.upto netOrderSpec)

/-- 'sedimentlaw14.HoldsKnown', WHERE WHAT IT READS IS OF BULK AT MOST 1048576: true; the input reads as it did. -/
def holdsKnownUptoRow : OpenClaim := { program := "ytjjebdfjmbnhpaa", sum := "eead96e6162afcd8dffab7e8903e07eb284cef1bb8ff582d6eab212ff7dea583", func := "sediment/sedimentlaw14.HoldsKnown", spec := "holdsKnown", inPlace := ["internal/abi.NoEscape", "internal/bytealg.MakeNoZero"], unfollowed := true, recurses := true, apart := false, narrowed := true }
def HoldsKnownUptoSaid : Prop := holdsKnownUptoRow.holds Try.pinned (OpenSpec.upto holdsKnownSpec)

/-- 'sedimentlaw04.FrameKnown', WHERE WHAT IT READS IS OF BULK AT MOST 1048576: true; the input reads as it did. -/
def frameKnownUptoRow : OpenClaim := { program := "ytjjebdfjmbnhpaa", sum := "eead96e6162afcd8dffab7e8903e07eb284cef1bb8ff582d6eab212ff7dea583", func := "sediment/sedimentlaw04.FrameKnown", spec := "frameKnown", inPlace := ["internal/abi.NoEscape", "internal/bytealg.MakeNoZero"], unfollowed := true, recurses := true, apart := false, narrowed := true }
def FrameKnownUptoSaid : Prop := frameKnownUptoRow.holds Try.pinned (OpenSpec.upto frameKnownSpec)

/-- 'sedimentlaw30.NetKnown', WHERE WHAT IT READS IS OF BULK AT MOST 1048576: true; the input reads as it did. -/
def netKnownUptoRow : OpenClaim := { program := "ytjjebdfjmbnhpaa", sum := "eead96e6162afcd8dffab7e8903e07eb284cef1bb8ff582d6eab212ff7dea583", func := "sediment/sedimentlaw30.NetKnown", spec := "netKnown", inPlace := ["internal/abi.NoEscape", "internal/bytealg.MakeNoZero"], apart := false, narrowed := true }
def NetKnownUptoSaid : Prop := netKnownUptoRow.holds Try.pinned (OpenSpec.upto netKnownSpec)

end Rows
end Go.Proofs.Ytjjebdfjmbnhpaa
