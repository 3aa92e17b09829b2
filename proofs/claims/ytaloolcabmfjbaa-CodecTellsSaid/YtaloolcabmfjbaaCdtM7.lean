/-
  Texts of this claim, one behind the other: CdRd CdRr CdSm. Each says its own conditions.
-/
import Derived.Test.YtaloolcabmfjbaaProg
import Derived.Test.YtaloolcabmfjbaaCdtM5
import Derived.Test.YtaloolcabmfjbaaCdtM6
import Derived.KernelRfl

set_option linter.unusedVariables false
set_option linter.unusedSimpArgs false
set_option linter.unusedSectionVars false
section
namespace Go.Proofs.Ytaloolcabmfjbaa
open Go.Sym
set_option linter.unusedVariables false
set_option linter.unusedSimpArgs false
set_option maxRecDepth 100000
set_option maxHeartbeats 4000000
section
variable (s : ByteArray) (bad : Bool) (t : TypeId)
end
end Go.Proofs.Ytaloolcabmfjbaa
end

section
namespace Go.Proofs.Ytaloolcabmfjbaa
open Go.Sym
set_option linter.unusedVariables false
set_option linter.unusedSimpArgs false
set_option maxRecDepth 100000
set_option maxHeartbeats 4000000
section
variable (s : ByteArray) (bad : Bool) (t : TypeId)
end
end Go.Proofs.Ytaloolcabmfjbaa
end

section
namespace Go.Proofs.Ytaloolcabmfjbaa
open Go.Sym
set_option linter.unusedVariables false
set_option linter.unusedSimpArgs false
set_option maxRecDepth 100000
set_option maxHeartbeats 4000000
section
variable (s : ByteArray) (bad : Bool) (t : TypeId)
end
theorem of_leI {a b : Int} (h : leI a b = true) : a ≤ b := by rw [leI_eq] at h; exact of_decide_eq_true h
end Go.Proofs.Ytaloolcabmfjbaa
end
