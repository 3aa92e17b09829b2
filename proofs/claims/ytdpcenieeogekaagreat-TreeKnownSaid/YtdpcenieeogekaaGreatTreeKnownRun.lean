/-
  The chapter's closed statement, run: the program's function "TreeKnown" returns true, in whatever world. No condition.
-/
import Derived.Test.YtdpcenieeogekaaGreatTreeIns
import Derived.Test.YtdpcenieeogekaaGreatCrcKnow
import Derived.Test.YtdpcenieeogekaaGreatProg
import Derived.KernelRfl
namespace Go.Proofs.YtdpcenieeogekaaGreat
open Go.Eng
open Go.RowKit (Below)

noncomputable def knownTreeKnown : ESelf := knownOr (knownIns 54) knownSum
theorem knownTreeKnown_ok : SelfOK Tryz.prog knownTreeKnown := knownOr_ok (knownIns_ok treeIns) knownSum_ok
theorem treeKnown_run : isTrue (callE Tryz.prog knownTreeKnown 3000 40 (.fn 3 []) st0) = true := by kernel_rfl
theorem treeKnown_calls (w : World) : Calls Tryz.prog 3 #[] w fun E w' => E = .returned (.bool true) ∧ Below w.heap.size w w' :=
  calls_true knownTreeKnown_ok treeKnown_run w
end Go.Proofs.YtdpcenieeogekaaGreat
