/-
  The chapter's closed statement, run: the program's function "BucketKnown" returns true, in whatever world. No condition.
-/
import Derived.Test.YtmnjgdnmlopigaaGreatBkWorks
namespace Go.Proofs.YtmnjgdnmlopigaaGreat
open Go.Eng
open Go.RowKit (Below)

noncomputable def knownBucket : ESelf := knownFast 1645504557321299578326666040457665613144676987100321079103586304 (knownOr knownWorks10 knownBk)
theorem knownBucket_ok : SelfOK Tryz.prog knownBucket := knownFast_ok (knownOr_ok knownWorks10_ok knownBk_ok)
theorem bucketKnown_run : isTrue (callE Tryz.prog knownBucket 3000 40 (.fn 3 []) st0) = true := by kernel_rfl
theorem bucketKnown_calls (w : World) : Calls Tryz.prog 3 #[] w fun E w' => E = .returned (.bool true) ∧ Below w.heap.size w w' :=
  calls_true knownBucket_ok bucketKnown_run w
end Go.Proofs.YtmnjgdnmlopigaaGreat
