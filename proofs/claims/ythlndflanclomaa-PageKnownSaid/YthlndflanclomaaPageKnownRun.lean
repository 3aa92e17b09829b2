/-
  The chapter's closed statement, run: the program's function "PageKnown" returns true, in whatever world. No condition.
-/
import Derived.Test.YthlndflanclomaaEngO
import Derived.Test.YthlndflanclomaaCrcKnow
import Derived.Test.YthlndflanclomaaProg
import Derived.KernelRfl
namespace Go.Proofs.Ythlndflanclomaa
open Go.Eng
open Go.RowKit (Below)

noncomputable def knownPageKnown : ESelf := knownSum
theorem knownPageKnown_ok : SelfOK Try.prog knownPageKnown := knownSum_ok
theorem pageKnown_run : isTrue (callE Try.prog knownPageKnown 3000 40 (.fn 8 []) st0) = true := by kernel_rfl
theorem pageKnown_calls (w : World) : Calls Try.prog 8 #[] w fun E w' => E = .returned (.bool true) ∧ Below w.heap.size w w' :=
  calls_true knownPageKnown_ok pageKnown_run w
end Go.Proofs.Ythlndflanclomaa
