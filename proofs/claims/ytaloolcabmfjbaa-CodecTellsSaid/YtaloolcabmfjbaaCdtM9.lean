/-
  Texts of this claim, one behind the other: CdAny. Each says its own conditions.
-/
import Derived.Test.YtaloolcabmfjbaaCdtM8

set_option linter.unusedVariables false
set_option linter.unusedSimpArgs false
set_option linter.unusedSectionVars false
section
namespace Go.Proofs.Ytaloolcabmfjbaa
open Go.Sym
set_option linter.unusedVariables false
set_option linter.unusedSimpArgs false
set_option maxRecDepth 100000
set_option maxHeartbeats 4000000
end Go.Proofs.Ytaloolcabmfjbaa
end
