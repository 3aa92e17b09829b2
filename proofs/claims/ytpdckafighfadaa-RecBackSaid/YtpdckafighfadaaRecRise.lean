/-
  RecRise returns true at every two revisions. Conditions: numbers that fit their kinds.
-/
import Derived.Test.YtpdckafighfadaaRecKey
namespace Go.Proofs.Ytpdckafighfadaa
open Go.Sym
set_option maxRecDepth 100000
set_option maxHeartbeats 200000

noncomputable def keyF (args : List V) : Option (List Bool × V) := match args with
  | [.agg [.int .u64 m, .int .u64 n]] => some ([decide (0 ≤ m), decide (m < 18446744073709551616), decide (0 ≤ n), decide (n < 18446744073709551616)], .str (keyB m n))
  | _ => none
theorem keyF_ok (args : List V) (c : List Bool) (v : V) (h : keyF args = some (c, v)) (hc : allB c) : PureAt Try.prog 11 args v := by
  unfold keyF at h
  split at h
  · cases h
    obtain ⟨h1, h2, h3, h4, _⟩ := hc
    exact key_at _ _ ⟨of_decide_eq_true h1, of_decide_eq_true h2⟩ ⟨of_decide_eq_true h3, of_decide_eq_true h4⟩
  · cases h
noncomputable def splitF (args : List V) : Option (List Bool × V) := match args with
  | [.str s] => some ([decide (s.size = 16)], .tup [.agg [.int .u64 (spV s 0), .int .u64 (spV s 8)], .int .i64 0])
  | _ => none
theorem splitF_ok (args : List V) (c : List Bool) (v : V) (h : splitF args = some (c, v)) (hc : allB c) : PureAt Try.prog 16 args v := by
  unfold splitF at h
  split at h
  · cases h
    exact split_at _ (of_decide_eq_true hc.1)
  · cases h
noncomputable def trueF (args : List V) : Option (List Bool × V) := match args with
  | [] => some ([], .bool true)
  | _ => none
theorem trueF_ok {P : Program} {g : FuncId} (hg : PureAt P g [] (.bool true)) (args : List V) (c : List Bool) (v : V) (h : trueF args = some (c, v)) (_ : allB c) : PureAt P g args v := by
  unfold trueF at h
  split at h
  · cases h; exact hg
  · cases h
noncomputable def tabRise : Tab := oneTab 13 trueF (oneTab 11 keyF (oneTab 16 splitF noTab))
theorem tabRise_ok (hw : PureAt Try.prog 13 [] (.bool true)) : TabOK Try.prog tabRise := oneTab_ok (trueF_ok hw) (oneTab_ok keyF_ok (oneTab_ok splitF_ok noTab_ok))
theorem rise_case (hw : PureAt Try.prog 13 [] (.bool true)) (a b c d : Int) (t1 t2 t3 t4 : Bool)
    (h1 : decide (0 ≤ a) = true) (h2 : decide (a < 18446744073709551616) = true) (h3 : decide (0 ≤ b) = true) (h4 : decide (b < 18446744073709551616) = true)
    (h5 : decide (0 ≤ c) = true) (h6 : decide (c < 18446744073709551616) = true) (h7 : decide (0 ≤ d) = true) (h8 : decide (d < 18446744073709551616) = true)
    (k1 : decide (a < c) = t1) (k2 : decide (a = c) = t2) (k3 : decide (b < d) = t3) (k4 : decide (b = d) = t4) (hs : decide ((keyB a b).size = 16) = true) (hs' : decide ((keyB c d).size = 16) = true) (hl : sLt (keyB a b) (keyB c d) = (t1 || t2 && t3)) (he : sEq (keyB a b) (keyB c d) = (t2 && t4))
    (v1 : spV (keyB a b) 0 = a) (v2 : spV (keyB a b) 8 = b) (v3 : spV (keyB c d) 0 = c) (v4 : spV (keyB c d) 8 = d) (hc : t1 = true → t2 = false) :
    PureAt Try.prog 6 [.agg [.int .u64 a, .int .u64 b], .agg [.int .u64 c, .int .u64 d]] (.bool true) := by
  cases t1 <;> cases t2 <;> simp only [Bool.false_or, Bool.true_or, Bool.true_and, Bool.false_and] at hl he
  all_goals refine pure_of_W0 (tab := tabRise) (fuel := 3) (d := 4) (tabRise_ok hw) ?_
  case true.true => exact absurd (hc rfl) (by decide)
  all_goals cases t3
  repeat' (conv => whnf
           first
            | (with_reducible exact True.intro)
            | (with_reducible rfl)
            | (with_reducible exact castL_self _ _)
            | ((with_reducible refine V.same_t ?_); exact rfl)
            | (with_reducible refine iteB_n ?_)
            | ((with_reducible refine andB_i ?_ ?_); · (first | (with_reducible assumption) | (with_reducible exact decide_eq_true rfl) | (with_reducible exact sEq_self _) | ((with_reducible refine eqOK_i ?_); kernel_rfl)))
            | ((with_reducible refine iteB_t ?_ ?_); · (first | (with_reducible assumption) | (with_reducible exact decide_eq_true rfl) | (with_reducible exact sEq_self _) | ((with_reducible refine eqOK_i ?_); kernel_rfl)))
            | ((with_reducible refine iteB_f ?_ ?_); · (first | (with_reducible assumption) | (with_reducible exact decide_eq_true rfl) | (with_reducible exact sEq_self _) | ((with_reducible refine eqOK_i ?_); kernel_rfl)))
            | (with_reducible refine andB_i ?_ ?_)
            | (with_reducible refine iteB_s (fun hB => ?_) (fun hB => ?_))
            | (with_reducible refine CD.wk_as ?_)
            | (with_reducible refine And.intro ?_ ?_))
  all_goals (conv => whnf)
  all_goals first
    | rfl
    | (exfalso; simp_all [keyB_size]; done)
    | (exfalso; rw [hl] at hB; simp only [k1, k2, k3, cond_true, cond_false] at hB; exact absurd hB (by decide))
    | (exfalso; simp_all [keyB_size]; omega)
    | trace_state
theorem recRise_at (hw : PureAt Try.prog 13 [] (.bool true)) (a b c d : Int) (ha : 0 ≤ a ∧ a < 18446744073709551616) (hb : 0 ≤ b ∧ b < 18446744073709551616) (hc : 0 ≤ c ∧ c < 18446744073709551616) (hd : 0 ≤ d ∧ d < 18446744073709551616) :
    PureAt Try.prog 6 [.agg [.int .u64 a, .int .u64 b], .agg [.int .u64 c, .int .u64 d]] (.bool true) :=
  rise_case hw a b c d _ _ _ _ (decide_eq_true ha.1) (decide_eq_true ha.2) (decide_eq_true hb.1) (decide_eq_true hb.2) (decide_eq_true hc.1) (decide_eq_true hc.2) (decide_eq_true hd.1) (decide_eq_true hd.2) rfl rfl rfl rfl
    (decide_eq_true (keyB_size a b)) (decide_eq_true (keyB_size c d)) (by rw [keyB_lt a b c d ha hb hc hd]; simp) (by rw [keyB_sEq a b c d ha hb hc hd]; simp) (spV_0 a b ha) (spV_8 a b hb) (spV_0 c d hc) (spV_8 c d hd) (by simp only [decide_eq_true_eq, decide_eq_false_iff_not]; omega)
end Go.Proofs.Ytpdckafighfadaa
