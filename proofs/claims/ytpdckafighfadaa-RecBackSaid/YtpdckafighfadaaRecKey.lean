/-
  Revisions' bytes, there and back: the program's functions. Conditions: numbers that fit their kinds.
-/
import Derived.Test.YtpdckafighfadaaRecLaw
import Derived.Test.YtpdckafighfadaaProg
namespace Go.Proofs.Ytpdckafighfadaa
open Go.Sym
set_option maxRecDepth 100000
set_option maxHeartbeats 2000000

theorem key_at (m n : Int) (hm : 0 ≤ m ∧ m < 18446744073709551616) (hn : 0 ≤ n ∧ n < 18446744073709551616) : PureAt Try.prog 11 [.agg [.int .u64 m, .int .u64 n]] (.str (keyB m n)) := by
  refine pure_of_W0 (tab := noTab) (fuel := 10) (d := 3) noTab_ok ?_
  repeat' (conv => whnf
           first
            | (with_reducible exact True.intro)
            | (with_reducible rfl)
            | (with_reducible exact castL_self _ _)
            | ((with_reducible refine V.same_t ?_); exact rfl)
            | (with_reducible refine iteB_n ?_)
            | ((with_reducible refine andB_i ?_ ?_); · (first | (with_reducible assumption) | (with_reducible exact decide_eq_true rfl) | (with_reducible exact sEq_self _) | ((with_reducible refine eqOK_i ?_); kernel_rfl)))
            | ((with_reducible refine iteB_t ?_ ?_); · (first | (with_reducible assumption) | (with_reducible exact decide_eq_true rfl) | (with_reducible exact sEq_self _) | ((with_reducible refine eqOK_i ?_); kernel_rfl)))
            | ((with_reducible refine iteB_f ?_ ?_); · (first | (with_reducible assumption) | (with_reducible exact decide_eq_true rfl) | (with_reducible exact sEq_self _) | ((with_reducible refine eqOK_i ?_); kernel_rfl)))
            | (with_reducible refine andB_i ?_ ?_)
            | (with_reducible refine iteB_s (fun hB => ?_) (fun hB => ?_))
            | (with_reducible refine CD.wk_as ?_)
            | (with_reducible refine And.intro ?_ ?_))
  all_goals (conv => whnf)
  exact congrArg V.str (strOf_key m n hm.1 hn.1)
theorem split_at (s : ByteArray) (hs : s.size = 16) : PureAt Try.prog 16 [.str s] (.tup [.agg [.int .u64 (spV s 0), .int .u64 (spV s 8)], .int .i64 0]) := by
  refine pure_of_W0 (tab := noTab) (fuel := 10) (d := 3) noTab_ok ?_
  repeat' (conv => whnf
           first
            | (with_reducible exact True.intro)
            | (with_reducible rfl)
            | (with_reducible exact castL_self _ _)
            | ((with_reducible refine V.same_t ?_); exact rfl)
            | (with_reducible refine iteB_n ?_)
            | ((with_reducible refine andB_i ?_ ?_); · (first | (with_reducible assumption) | (with_reducible exact decide_eq_true rfl) | (with_reducible exact sEq_self _) | ((with_reducible refine eqOK_i ?_); kernel_rfl)))
            | ((with_reducible refine iteB_t ?_ ?_); · (first | (with_reducible assumption) | (with_reducible exact decide_eq_true rfl) | (with_reducible exact sEq_self _) | ((with_reducible refine eqOK_i ?_); kernel_rfl)))
            | ((with_reducible refine iteB_f ?_ ?_); · (first | (with_reducible assumption) | (with_reducible exact decide_eq_true rfl) | (with_reducible exact sEq_self _) | ((with_reducible refine eqOK_i ?_); kernel_rfl)))
            | (with_reducible refine andB_i ?_ ?_)
            | (with_reducible refine iteB_s (fun hB => ?_) (fun hB => ?_))
            | (with_reducible refine CD.wk_as ?_)
            | (with_reducible refine And.intro ?_ ?_))
  all_goals (conv => whnf)
  all_goals first
    | exact decide_eq_true (by rw [hs]; decide)
    | (have hB : decide (Int.ofNat s.size = 16) = false := hB
       rw [hs] at hB
       cases hB)
    | (rw [← spS_8 s 0 (by omega), ← spS_8 s 8 (by omega)]; rfl)
end Go.Proofs.Ytpdckafighfadaa
