/-
  Texts of this claim, one behind the other: CdRck. Each says its own conditions.
-/
import Derived.Test.YtaloolcabmfjbaaCdbM12

set_option linter.unusedVariables false
set_option linter.unusedSimpArgs false
set_option linter.unusedSectionVars false
section
namespace Go.Proofs.Ytaloolcabmfjbaa
open Go.Sym
set_option linter.unusedVariables false
set_option linter.unusedSimpArgs false
set_option maxRecDepth 100000
set_option maxHeartbeats 4000000
section
variable (k cl nm rv : Int) (sr : Bool) (C : List CmQ) (A B : List OpQ)
end
end Go.Proofs.Ytaloolcabmfjbaa
end
