/-
  The chapter's closed statement, run: the program's function "WireKnown" returns true, in whatever world. No condition.
-/
import Derived.Test.YtnialnigkbkicabEngO
import Derived.Test.YtnialnigkbkicabProg
import Derived.KernelRfl
namespace Go.Proofs.Ytnialnigkbkicab
open Go.Eng
open Go.RowKit (Below)

theorem wireKnown_run : isTrue (callE Try.prog (fun _ _ => none) 3000 40 (.fn 5 []) st0) = true := by kernel_rfl
theorem wireKnown_calls (w : World) : Calls Try.prog 5 #[] w fun E w' => E = .returned (.bool true) ∧ Below w.heap.size w w' :=
  calls_true none_ok wireKnown_run w
end Go.Proofs.Ytnialnigkbkicab
