/-
  The chapter's closed statement, run: the program's function "FrameKnown" returns true, in whatever world. No condition.
-/
import Derived.Test.YtjjebdfjmbnhpaaEngO
import Derived.Test.YtjjebdfjmbnhpaaEngS
import Derived.Test.YtjjebdfjmbnhpaaShelf
import Derived.Test.YtjjebdfjmbnhpaaCrcKnow
import Derived.Test.YtjjebdfjmbnhpaaProg
import Derived.KernelRfl
namespace Go.Proofs.Ytjjebdfjmbnhpaa
open Go.Eng
open Go.RowKit (Below)

noncomputable def knownFrameKnown : ESelf := knownOr (knownRep 44) knownSum
theorem knownFrameKnown_ok : SelfOK Try.prog knownFrameKnown := knownOr_ok (knownRep_ok fun s c w h1 h2 => Go.Proofs.Try.strings_Repeat s c w h1 h2) knownSum_ok
theorem frameKnown_run : isTrue (callE Try.prog knownFrameKnown 70000 40 (.fn 12 []) st0) = true := by kernel_rfl
theorem frameKnown_calls (w : World) : Calls Try.prog 12 #[] w fun E w' => E = .returned (.bool true) ∧ Below w.heap.size w w' :=
  calls_true knownFrameKnown_ok frameKnown_run w
end Go.Proofs.Ytjjebdfjmbnhpaa
