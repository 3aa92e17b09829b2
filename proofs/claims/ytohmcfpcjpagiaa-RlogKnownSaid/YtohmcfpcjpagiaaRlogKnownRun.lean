/-
  The chapter's closed statement, run: the program's function "RlogKnown" returns true, in whatever world. No condition.
-/
import Derived.Test.YtohmcfpcjpagiaaEngO
import Derived.Test.YtohmcfpcjpagiaaEngS
import Derived.Test.YtohmcfpcjpagiaaShelf
import Derived.Test.YtohmcfpcjpagiaaProg
import Derived.KernelRfl
namespace Go.Proofs.Ytohmcfpcjpagiaa
open Go.Eng
open Go.RowKit (Below)

def knownRlogKnown : ESelf := (knownRep 53)
theorem knownRlogKnown_ok : SelfOK Try.prog knownRlogKnown := (knownRep_ok fun s c w h1 h2 => Go.Proofs.Try.strings_Repeat s c w h1 h2)
theorem rlogKnown_run : isTrue (callE Try.prog knownRlogKnown 3000 40 (.fn 14 []) st0) = true := by kernel_rfl
theorem rlogKnown_calls (w : World) : Calls Try.prog 14 #[] w fun E w' => E = .returned (.bool true) ∧ Below w.heap.size w w' :=
  calls_true knownRlogKnown_ok rlogKnown_run w
end Go.Proofs.Ytohmcfpcjpagiaa
