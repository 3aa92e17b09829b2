/-
  The chapter's closed statement of the sums, run: the program's function "CrcKnown" returns true, in whatever world. No condition.
-/
import Derived.Test.YtnialnigkbkicaaCrcTab
namespace Go.Proofs.Ytnialnigkbkicaa
open Go.Eng
open Go.RowKit (Below)

theorem crcKnown_run : isTrue (callE Try.prog knownTab 300 12 (.fn 7 []) st0) = true := by kernel_rfl
theorem crcKnown_calls (w : World) : Calls Try.prog 7 #[] w fun E w' => E = .returned (.bool true) ∧ Below w.heap.size w w' :=
  calls_true knownTab_ok crcKnown_run w
end Go.Proofs.Ytnialnigkbkicaa
