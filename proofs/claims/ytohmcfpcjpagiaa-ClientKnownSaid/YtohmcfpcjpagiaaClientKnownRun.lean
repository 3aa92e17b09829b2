/-
  The chapter's closed statement, run: the program's function "ClientKnown" returns true, in whatever world. No condition.
-/
import Derived.Test.YtohmcfpcjpagiaaEngO
import Derived.Test.YtohmcfpcjpagiaaProg
import Derived.KernelRfl
namespace Go.Proofs.Ytohmcfpcjpagiaa
open Go.Eng
open Go.RowKit (Below)

def knownClientKnown : ESelf := fun _ _ => none
theorem knownClientKnown_ok : SelfOK Try.prog knownClientKnown := none_ok
theorem clientKnown_run : isTrue (callE Try.prog knownClientKnown 3000 40 (.fn 13 []) st0) = true := by kernel_rfl
theorem clientKnown_calls (w : World) : Calls Try.prog 13 #[] w fun E w' => E = .returned (.bool true) ∧ Below w.heap.size w w' :=
  calls_true knownClientKnown_ok clientKnown_run w
end Go.Proofs.Ytohmcfpcjpagiaa
