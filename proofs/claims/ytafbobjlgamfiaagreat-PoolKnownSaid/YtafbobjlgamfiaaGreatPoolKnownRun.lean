/-
  The chapter's closed statement, run: the program's function "PoolKnown" returns true, in whatever world. No condition.
-/
import Derived.Test.YtafbobjlgamfiaaGreatFilesKeys
import Derived.Test.YtafbobjlgamfiaaGreatPoolKeys
import Derived.Test.YtafbobjlgamfiaaGreatEngS
import Derived.Test.YtafbobjlgamfiaaGreatShelf
import Derived.Test.YtafbobjlgamfiaaGreatCrcKnow
import Derived.Test.YtafbobjlgamfiaaGreatProg
import Derived.KernelRfl
namespace Go.Proofs.YtafbobjlgamfiaaGreat
open Go.Eng
open Go.RowKit (Below)

noncomputable def knownPoolKnown : ESelf := knownOr (knownRep 11) (knownOr knownFiles (knownOr knownPool knownSum))
theorem knownPoolKnown_ok : SelfOK Tryz.prog knownPoolKnown := knownOr_ok (knownRep_ok fun s c w h1 h2 => Go.Proofs.Tryz.strings_Repeat s c w h1 h2) (knownOr_ok knownFiles_ok (knownOr_ok knownPool_ok knownSum_ok))
theorem poolKnown_run : isTrue (callE Tryz.prog knownPoolKnown 3000 40 (.fn 3 []) st0) = true := by kernel_rfl
theorem poolKnown_calls (w : World) : Calls Tryz.prog 3 #[] w fun E w' => E = .returned (.bool true) ∧ Below w.heap.size w w' :=
  calls_true knownPoolKnown_ok poolKnown_run w
end Go.Proofs.YtafbobjlgamfiaaGreat
