/-
  The chapter's closed statement, run: the program's function "FilesKnown" returns true, in whatever world. No condition.
-/
import Derived.Test.YtbcjlbefjjhglaaFilesKeys
import Derived.Test.YtbcjlbefjjhglaaEngS
import Derived.Test.YtbcjlbefjjhglaaShelf
import Derived.Test.YtbcjlbefjjhglaaProg
import Derived.KernelRfl
namespace Go.Proofs.Ytbcjlbefjjhglaa
open Go.Eng
open Go.RowKit (Below)

noncomputable def knownFilesKnown : ESelf := knownOr (knownRep 43) knownFiles
theorem knownFilesKnown_ok : SelfOK Try.prog knownFilesKnown := knownOr_ok (knownRep_ok fun s c w h1 h2 => Go.Proofs.Try.strings_Repeat s c w h1 h2) knownFiles_ok
theorem filesKnown_run : isTrue (callE Try.prog knownFilesKnown 3000 40 (.fn 8 []) st0) = true := by kernel_rfl
theorem filesKnown_calls (w : World) : Calls Try.prog 8 #[] w fun E w' => E = .returned (.bool true) ∧ Below w.heap.size w w' :=
  calls_true knownFilesKnown_ok filesKnown_run w
end Go.Proofs.Ytbcjlbefjjhglaa
