/-
  RecLays returns true at every record. Conditions: numbers that fit their kinds.
-/
import Derived.Test.YtpdckafighfadaaRecEnc
import Derived.Test.YtpdckafighfadaaRecEight
import Derived.Test.YtpdckafighfadaaRecRise
namespace Go.Proofs.Ytpdckafighfadaa
open Go.Sym
set_option linter.unusedVariables false
set_option maxRecDepth 100000
set_option maxHeartbeats 4000000

noncomputable def encF (args : List V) : Option (List Bool × V) := match args with
  | [.agg [.int .u64 m, .int .u64 n, .str k, .str v, .int .u64 c, .int .u64 d, .int .u64 w, .bool t]] =>
    some ([decide (0 ≤ m), decide (m < 18446744073709551616), decide (0 ≤ n), decide (n < 18446744073709551616), decide (0 ≤ c), decide (c < 18446744073709551616), decide (0 ≤ d), decide (d < 18446744073709551616), decide (0 ≤ w), decide (w < 18446744073709551616), decide (k.size ≤ 1000), decide (v.size ≤ 1000)],
      .tup [.str (recT m n k v c d w t), .int .i64 (recE m n k v c d w t)])
  | _ => none
theorem encF_ok (args : List V) (c : List Bool) (v : V) (h : encF args = some (c, v)) (hc : allB c) : PureAt Try.prog 9 args v := by
  unfold encF at h
  split at h
  · cases h
    obtain ⟨h1, h2, h3, h4, h5, h6, h7, h8, h9, h10, h11, h12, _⟩ := hc
    exact enc_at _ _ _ _ _ _ _ _ h1 h2 h3 h4 h5 h6 h7 h8 h9 h10 h11 h12
  · cases h
theorem refencF_ok (args : List V) (c : List Bool) (v : V) (h : encF args = some (c, v)) (hc : allB c) : PureAt Try.prog 10 args v := by
  unfold encF at h
  split at h
  · cases h
    obtain ⟨h1, h2, h3, h4, h5, h6, h7, h8, h9, h10, h11, h12, _⟩ := hc
    exact refenc_at _ _ _ _ _ _ _ _ h1 h2 h3 h4 h5 h6 h7 h8 h9 h10 h11 h12
  · cases h
theorem refkeyF_ok (args : List V) (c : List Bool) (v : V) (h : keyF args = some (c, v)) (hc : allB c) : PureAt Try.prog 12 args v := by
  unfold keyF at h
  split at h
  · cases h
    obtain ⟨h1, h2, h3, h4, _⟩ := hc
    exact refkey_at _ _ h1 h2 h3 h4
  · cases h
noncomputable def tabLays : Tab := oneTab 13 trueF (oneTab 11 keyF (oneTab 12 keyF (oneTab 9 encF (oneTab 10 encF noTab))))
theorem tabLays_ok (hw : PureAt Try.prog 13 [] (.bool true)) : TabOK Try.prog tabLays := oneTab_ok (trueF_ok hw) (oneTab_ok keyF_ok (oneTab_ok refkeyF_ok (oneTab_ok encF_ok (oneTab_ok refencF_ok noTab_ok))))
theorem recLays_at (hw : PureAt Try.prog 13 [] (.bool true)) (m n : Int) (k v : ByteArray) (c d w : Int) (t : Bool) (h1 : decide (0 ≤ m) = true) (h2 : decide (m < 18446744073709551616) = true) (h3 : decide (0 ≤ n) = true) (h4 : decide (n < 18446744073709551616) = true)
    (h5 : decide (0 ≤ c) = true) (h6 : decide (c < 18446744073709551616) = true) (h7 : decide (0 ≤ d) = true) (h8 : decide (d < 18446744073709551616) = true) (h9 : decide (0 ≤ w) = true) (h10 : decide (w < 18446744073709551616) = true)
    (hk : k.size ≤ 9223372036854775807) (hv : v.size ≤ 9223372036854775807) :
    PureAt Try.prog 3 [.agg [.int .u64 m, .int .u64 n, .str k, .str v, .int .u64 c, .int .u64 d, .int .u64 w, .bool t]] (.bool true) := by
  refine pure_of_W0 (tab := tabLays) (fuel := 3) (d := 4) (tabLays_ok hw) ?_
  repeat' (conv => whnf
           first
            | (with_reducible exact True.intro)
            | (with_reducible rfl)
            | (with_reducible exact castL_self _ _)
            | ((with_reducible refine V.same_t ?_); exact rfl)
            | (with_reducible refine iteB_n ?_)
            | ((with_reducible refine andB_i ?_ ?_); · (first | (with_reducible assumption) | (with_reducible exact decide_eq_true rfl) | (with_reducible exact sEq_self _) | ((with_reducible refine eqOK_i ?_); kernel_rfl)))
            | ((with_reducible refine iteB_t ?_ ?_); · (first | (with_reducible assumption) | (with_reducible exact decide_eq_true rfl) | (with_reducible exact sEq_self _) | ((with_reducible refine eqOK_i ?_); kernel_rfl)))
            | ((with_reducible refine iteB_f ?_ ?_); · (first | (with_reducible assumption) | (with_reducible exact decide_eq_true rfl) | (with_reducible exact sEq_self _) | ((with_reducible refine eqOK_i ?_); kernel_rfl)))
            | (with_reducible refine andB_i ?_ ?_)
            | (with_reducible refine iteB_s (fun hB => ?_) (fun hB => ?_))
            | (with_reducible refine CD.wk_as ?_)
            | (with_reducible refine And.intro ?_ ?_))
  all_goals (conv => whnf)
  all_goals first
    | (refine decide_eq_true ?_; simp only [ByteArray.size_extract, Int.ofNat_eq_natCast]; omega) | (refine decide_eq_true ?_; simp only [Int.ofNat_eq_natCast]; omega)
    | rfl
    | (exfalso; simp only [sEq_self, cond_true, cond_false, decide_true] at hB; exact absurd hB (by decide))
    | (exfalso; simp [sEq_self] at hB; done)
    | trace_state
end Go.Proofs.Ytpdckafighfadaa
