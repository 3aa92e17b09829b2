/-
  The chapter's closed statement, run: the program's function "CodecKnown" returns true, in whatever world. No condition.
-/
import Derived.Test.YthlndflanclomaaEngO
import Derived.Test.YthlndflanclomaaProg
import Derived.KernelRfl
namespace Go.Proofs.Ythlndflanclomaa
open Go.Eng
open Go.RowKit (Below)

noncomputable def knownCodecKnown : ESelf := fun _ _ => none
theorem knownCodecKnown_ok : SelfOK Try.prog knownCodecKnown := none_ok
theorem codecKnown_run : isTrue (callE Try.prog knownCodecKnown 3000 40 (.fn 14 []) st0) = true := by kernel_rfl
theorem codecKnown_calls (w : World) : Calls Try.prog 14 #[] w fun E w' => E = .returned (.bool true) ∧ Below w.heap.size w w' :=
  calls_true knownCodecKnown_ok codecKnown_run w
end Go.Proofs.Ythlndflanclomaa
