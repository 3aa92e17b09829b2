/-
  RecReads returns true at every bytes. Condition: texts of a machine's size.
-/
import Derived.Test.YtpdckafighfadaaRecDec
import Derived.Test.YtpdckafighfadaaRecWorks
namespace Go.Proofs.Ytpdckafighfadaa
open Go.Sym
set_option linter.unusedVariables false
set_option maxRecDepth 100000
set_option maxHeartbeats 4000000

noncomputable def decF (args : List V) : Option (List Bool × V) := match args with
  | [.str key, .str s] => some ([decide (s.size ≤ 120)], decR key s)
  | _ => none
theorem decF_ok (args : List V) (c : List Bool) (v : V) (h : decF args = some (c, v)) (hc : allB c) : PureAt Try.prog 14 args v := by
  unfold decF at h
  split at h
  · cases h
    exact dec_at _ _ (of_decide_eq_true hc.1)
  · cases h
theorem refdecF_ok (args : List V) (c : List Bool) (v : V) (h : decF args = some (c, v)) (hc : allB c) : PureAt Try.prog 15 args v := by
  unfold decF at h
  split at h
  · cases h
    exact refdec_at _ _ (of_decide_eq_true hc.1)
  · cases h
noncomputable def tabReads (F : List V → Option (List Bool × V)) : Tab := oneTab 13 trueF (oneTab 14 decF (oneTab 15 decF (tabDec F)))
theorem tabReads_ok {F : List V → Option (List Bool × V)} (h : TabOK Try.prog (tabDec F)) : TabOK Try.prog (tabReads F) := oneTab_ok (trueF_ok works_at11) (oneTab_ok decF_ok (oneTab_ok refdecF_ok h))
theorem recReads_at (key s : ByteArray) (hk : key.size ≤ 9223372036854775807) (hs : s.size ≤ 9223372036854775807) : PureAt Try.prog 4 [.str key, .str s] (.bool true) := by
  cases h16 : decide ((key.extract 0 (min (Int.ofNat key.size) 20).toNat).size = 16) with
  | true =>
    refine pure_of_W0 (tab := tabReads splitF) (fuel := 3) (d := 4) (tabReads_ok tabDec_is) ?_
    repeat' (conv => whnf
             first
              | (with_reducible exact True.intro)
              | (with_reducible rfl)
              | (with_reducible exact castL_self _ _)
              | ((with_reducible refine V.same_t ?_); exact rfl)
              | (with_reducible refine iteB_n ?_)
              | ((with_reducible refine andB_i ?_ ?_); · (first | (with_reducible assumption) | (with_reducible exact decide_eq_true rfl) | (with_reducible exact sEq_self _) | ((with_reducible refine eqOK_i ?_); kernel_rfl)))
              | ((with_reducible refine iteB_t ?_ ?_); · (first | (with_reducible assumption) | (with_reducible exact decide_eq_true rfl) | (with_reducible exact sEq_self _) | ((with_reducible refine eqOK_i ?_); kernel_rfl)))
              | ((with_reducible refine iteB_f ?_ ?_); · (first | (with_reducible assumption) | (with_reducible exact decide_eq_true rfl) | (with_reducible exact sEq_self _) | ((with_reducible refine eqOK_i ?_); kernel_rfl)))
              | (with_reducible refine andB_i ?_ ?_)
              | (with_reducible refine iteB_s (fun hB => ?_) (fun hB => ?_))
              | (with_reducible refine CD.wk_as ?_)
              | (with_reducible refine And.intro ?_ ?_))
    all_goals (conv => whnf)
    all_goals first
      | (refine decide_eq_true ?_; simp only [ByteArray.size_extract, Int.ofNat_eq_natCast]; omega)
      | (refine decide_eq_true ?_; simp only [Int.ofNat_eq_natCast]; omega)
      | rfl
      | (exfalso; simp [sEq_self] at hB; done)
      | trace_state
  | false =>
    have h18 : decide (Int.ofNat (key.extract 0 (min (Int.ofNat key.size) 20).toNat).size = 16) = false := by
      exact decide_eq_false fun e => of_decide_eq_false h16 (by have e : ((key.extract 0 (min (Int.ofNat key.size) 20).toNat).size : Int) = 16 := e; omega)
    have h17 : (!decide (Int.ofNat (key.extract 0 (min (Int.ofNat key.size) 20).toNat).size = 16)) = true := by rw [h18]; rfl
    refine pure_of_W0 (tab := tabReads splitNoF) (fuel := 3) (d := 4) (tabReads_ok tabDec_no) ?_
    repeat' (conv => whnf
             first
              | (with_reducible exact True.intro)
              | (with_reducible rfl)
              | (with_reducible exact castL_self _ _)
              | ((with_reducible refine V.same_t ?_); exact rfl)
              | (with_reducible refine iteB_n ?_)
              | ((with_reducible refine andB_i ?_ ?_); · (first | (with_reducible assumption) | (with_reducible exact decide_eq_true rfl) | (with_reducible exact sEq_self _) | ((with_reducible refine eqOK_i ?_); kernel_rfl)))
              | ((with_reducible refine iteB_t ?_ ?_); · (first | (with_reducible assumption) | (with_reducible exact decide_eq_true rfl) | (with_reducible exact sEq_self _) | ((with_reducible refine eqOK_i ?_); kernel_rfl)))
              | ((with_reducible refine iteB_f ?_ ?_); · (first | (with_reducible assumption) | (with_reducible exact decide_eq_true rfl) | (with_reducible exact sEq_self _) | ((with_reducible refine eqOK_i ?_); kernel_rfl)))
              | (with_reducible refine andB_i ?_ ?_)
              | (with_reducible refine iteB_s (fun hB => ?_) (fun hB => ?_))
              | (with_reducible refine CD.wk_as ?_)
              | (with_reducible refine And.intro ?_ ?_))
    all_goals (conv => whnf)
    all_goals first
      | (refine decide_eq_true ?_; simp only [ByteArray.size_extract, Int.ofNat_eq_natCast]; omega)
      | (refine decide_eq_true ?_; simp only [Int.ofNat_eq_natCast]; omega)
      | rfl
      | (exfalso; simp [sEq_self] at hB; done)
      | trace_state

end Go.Proofs.Ytpdckafighfadaa
