/-
  The chapter's rows: works returns true. No condition.
-/
import Derived.Test.YtpdckafighfadaaSymV
import Derived.Test.YtpdckafighfadaaProg
namespace Go.Proofs.Ytpdckafighfadaa
open Go.Sym
set_option maxRecDepth 100000
set_option maxHeartbeats 4000000
theorem works_at11 : PureAt Try.prog 13 [] (.bool true) := by
  refine pure_of_W0 (tab := noTab) (fuel := 20) (d := 12) noTab_ok ?_
  repeat' (conv => whnf
           first
            | (with_reducible exact True.intro)
            | (with_reducible rfl)
            | (with_reducible exact castL_self _ _)
            | ((with_reducible refine V.same_t ?_); exact rfl)
            | (with_reducible refine iteB_n ?_)
            | ((with_reducible refine andB_i ?_ ?_); · (first | (with_reducible assumption) | (with_reducible exact decide_eq_true rfl) | (with_reducible exact sEq_self _) | ((with_reducible refine eqOK_i ?_); kernel_rfl)))
            | ((with_reducible refine iteB_t ?_ ?_); · (first | (with_reducible assumption) | (with_reducible exact decide_eq_true rfl) | (with_reducible exact sEq_self _) | ((with_reducible refine eqOK_i ?_); kernel_rfl)))
            | ((with_reducible refine iteB_f ?_ ?_); · (first | (with_reducible assumption) | (with_reducible exact decide_eq_true rfl) | (with_reducible exact sEq_self _) | ((with_reducible refine eqOK_i ?_); kernel_rfl)))
            | (with_reducible refine andB_i ?_ ?_)
            | (with_reducible refine iteB_s (fun hB => ?_) (fun hB => ?_))
            | (with_reducible refine CD.wk_as ?_)
            | (with_reducible refine And.intro ?_ ?_))
  all_goals (conv => whnf)
  all_goals kernel_rfl
end Go.Proofs.Ytpdckafighfadaa
