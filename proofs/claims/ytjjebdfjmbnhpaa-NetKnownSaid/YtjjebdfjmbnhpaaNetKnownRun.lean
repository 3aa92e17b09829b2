/-
  The chapter's closed statement, run: the program's function "NetKnown" returns true, in whatever world. No condition.
-/
import Derived.Test.YtjjebdfjmbnhpaaEngS
import Derived.Test.YtjjebdfjmbnhpaaShelf
import Derived.KernelRfl
namespace Go.Proofs.Ytjjebdfjmbnhpaa
open Go.Eng
open Go.RowKit (Below)

def knownStd : ESelf := knownRep 44
theorem knownStd_ok : SelfOK Try.prog knownStd := knownRep_ok fun s c w h1 h2 => Go.Proofs.Try.strings_Repeat s c w h1 h2
theorem netKnown_run : isTrue (callE Try.prog knownStd 3000 40 (.fn 13 []) st0) = true := by kernel_rfl
theorem netKnown_calls (w : World) : Calls Try.prog 13 #[] w fun E w' => E = .returned (.bool true) ∧ Below w.heap.size w w' :=
  calls_true knownStd_ok netKnown_run w
end Go.Proofs.Ytjjebdfjmbnhpaa
