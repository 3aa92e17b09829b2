/-
  The chapter's closed statement, run: the program's function "RaftKnown" returns true, in whatever world. No condition.
-/
import Derived.Test.YtbcjlbefjjhglaaEngO
import Derived.Test.YtbcjlbefjjhglaaEngS
import Derived.Test.YtbcjlbefjjhglaaShelf
import Derived.Test.YtbcjlbefjjhglaaProg
import Derived.KernelRfl
namespace Go.Proofs.Ytbcjlbefjjhglaa
open Go.Eng
open Go.RowKit (Below)

def knownRaftKnown : ESelf := (knownRep 43)
theorem knownRaftKnown_ok : SelfOK Try.prog knownRaftKnown := (knownRep_ok fun s c w h1 h2 => Go.Proofs.Try.strings_Repeat s c w h1 h2)
theorem raftKnown_run : isTrue (callE Try.prog knownRaftKnown 3000 40 (.fn 9 []) st0) = true := by kernel_rfl
theorem raftKnown_calls (w : World) : Calls Try.prog 9 #[] w fun E w' => E = .returned (.bool true) ∧ Below w.heap.size w w' :=
  calls_true knownRaftKnown_ok raftKnown_run w
end Go.Proofs.Ytbcjlbefjjhglaa
