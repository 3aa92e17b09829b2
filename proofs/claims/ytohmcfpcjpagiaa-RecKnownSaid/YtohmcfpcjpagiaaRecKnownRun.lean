/-
  The chapter's closed statement, run: the program's function "RecKnown" returns true, in whatever world. No condition.
-/
import Derived.Test.YtohmcfpcjpagiaaEngO
import Derived.Test.YtohmcfpcjpagiaaProg
import Derived.KernelRfl
namespace Go.Proofs.Ytohmcfpcjpagiaa
open Go.Eng
open Go.RowKit (Below)

def knownRecKnown : ESelf := fun _ _ => none
theorem knownRecKnown_ok : SelfOK Try.prog knownRecKnown := none_ok
theorem recKnown_run : isTrue (callE Try.prog knownRecKnown 3000 40 (.fn 8 []) st0) = true := by kernel_rfl
theorem recKnown_calls (w : World) : Calls Try.prog 8 #[] w fun E w' => E = .returned (.bool true) ∧ Below w.heap.size w w' :=
  calls_true knownRecKnown_ok recKnown_run w
end Go.Proofs.Ytohmcfpcjpagiaa
