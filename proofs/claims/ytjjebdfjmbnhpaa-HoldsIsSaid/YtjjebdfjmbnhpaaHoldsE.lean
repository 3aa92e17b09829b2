/-
  The law's own functions: comparisons cut, one of three holds. Conditions: what any such arguments fulfil.
-/
import Derived.Test.YtjjebdfjmbnhpaaHoldsD
namespace Go.Proofs.Ytjjebdfjmbnhpaa
open Go.Sym
set_option maxRecDepth 100000
set_option maxHeartbeats 4000000

theorem works_at14 : PureAt Try.prog 19 [] (.bool true) := by
  refine pure_of_W0 (tab := noTab) (fuel := 30) (d := 30) noTab_ok ?_
  repeat' (conv => whnf
           first
            | (with_reducible exact True.intro)
            | (with_reducible rfl)
            | (with_reducible exact castL_self _ _)
            | ((with_reducible refine V.same_t ?_); exact rfl)
            | (with_reducible refine iteB_n ?_)
            | ((with_reducible refine andB_i ?_ ?_); · (first | (with_reducible assumption) | (with_reducible exact decide_eq_true rfl) | (with_reducible exact sEq_self _)))
            | ((with_reducible refine iteB_t ?_ ?_); · (first | (with_reducible assumption) | (with_reducible exact decide_eq_true rfl) | (with_reducible exact sEq_self _)))
            | ((with_reducible refine iteB_f ?_ ?_); · (first | (with_reducible assumption) | (with_reducible exact decide_eq_true rfl) | (with_reducible exact sEq_self _)))
            | (with_reducible refine andB_i ?_ ?_)
            | (with_reducible refine iteB_s (fun hB => ?_) (fun hB => ?_))
            | (with_reducible refine CD.wk_as ?_)
            | (with_reducible refine And.intro ?_ ?_))
  all_goals (conv => whnf)
  all_goals rfl
noncomputable def oneB : CmpR → KvR → Bool → Bool := hide fun c kv there =>
  decide ((holdsB (c.1, c.2.1, 2, c.2.2.2) kv there).toNat + (holdsB (c.1, c.2.1, 0, c.2.2.2) kv there).toNat + (holdsB (c.1, c.2.1, 3, c.2.2.2) kv there).toNat = 1) && (holdsB (c.1, c.2.1, 1, c.2.2.2) kv there == !holdsB (c.1, c.2.1, 0, c.2.2.2) kv there)
theorem oneB_eq (c : CmpR) (kv : KvR) (there : Bool) : oneB c kv there =
  (decide ((holdsB (c.1, c.2.1, 2, c.2.2.2) kv there).toNat + (holdsB (c.1, c.2.1, 0, c.2.2.2) kv there).toNat + (holdsB (c.1, c.2.1, 3, c.2.2.2) kv there).toNat = 1) && (holdsB (c.1, c.2.1, 1, c.2.2.2) kv there == !holdsB (c.1, c.2.1, 0, c.2.2.2) kv there)) := by rw [oneB, hide_eq]
theorem one_r0 : Sym.rowAt [Ty.int .i64] [(2 : Int), (0 : Int), (3 : Int)] (Int.toNat 0) = (2 : Int) := rfl
theorem one_r1 : Sym.rowAt [Ty.int .i64] [(2 : Int), (0 : Int), (3 : Int)] (IntKind.i64.wrap (0 + 1)).toNat = (0 : Int) := rfl
theorem one_r2 : Sym.rowAt [Ty.int .i64] [(2 : Int), (0 : Int), (3 : Int)] (IntKind.i64.wrap (IntKind.i64.wrap (0 + 1) + 1)).toNat = (3 : Int) := rfl
theorem one_at (c : CmpR) (kv : KvR) (there : Bool) : PureAt Try.prog 20 [cmpA c, kvA kv, .bool there] (.bool (oneB c kv there)) := by
  obtain ⟨k, what, how, n, v⟩ := c
  obtain ⟨kk, kv, cr, mo, ve⟩ := kv
  rw [oneB_eq]
  refine pure_of_W0 (tab := tabHolds) (fuel := 5) (d := 6) tabHolds_ok ?_
  repeat' (conv => whnf
           first
            | (with_reducible exact True.intro)
            | (with_reducible rfl)
            | (with_reducible exact castL_self _ _)
            | ((with_reducible refine V.same_t ?_); exact rfl)
            | (with_reducible refine iteB_n ?_)
            | ((with_reducible refine andB_i ?_ ?_); · (first | (with_reducible assumption) | (with_reducible exact decide_eq_true rfl) | (with_reducible exact sEq_self _)))
            | ((with_reducible refine iteB_t ?_ ?_); · (first | (with_reducible assumption) | (with_reducible exact decide_eq_true rfl) | (with_reducible exact sEq_self _)))
            | ((with_reducible refine iteB_f ?_ ?_); · (first | (with_reducible assumption) | (with_reducible exact decide_eq_true rfl) | (with_reducible exact sEq_self _)))
            | (with_reducible refine andB_i ?_ ?_)
            | (with_reducible refine iteB_s (fun hB => ?_) (fun hB => ?_))
            | (with_reducible refine CD.wk_as ?_)
            | (with_reducible refine And.intro ?_ ?_))
  all_goals (conv => whnf)
  all_goals refine congrArg V.bool ?_
  all_goals dsimp only
  all_goals simp only [one_r0, one_r1, one_r2, cond_true, cond_false] at *
  all_goals simp_all
noncomputable def oneF (args : List V) : Option (List Bool × V) := match args with
  | [.agg [.str k, .int .i64 what, .int .i64 how, .int .u64 n, .str v], .agg [.str kk, .str kv, .int .u64 cr, .int .u64 mo, .int .u64 ve], .bool there] => some ([], .bool (oneB (k, what, how, n, v) (kk, kv, cr, mo, ve) there))
  | _ => none
theorem oneF_ok {g : FuncId} (hg : ∀ c kv there, PureAt Try.prog g [cmpA c, kvA kv, .bool there] (.bool (oneB c kv there))) (args : List V) (c : List Bool) (v : V) (h : oneF args = some (c, v)) (_ : allB c) : PureAt Try.prog g args v := by
  unfold oneF at h
  split at h
  · rename_i k what how n v kk kv cr mo ve there
    cases h
    exact hg (k, what, how, n, v) (kk, kv, cr, mo, ve) there
  · cases h
noncomputable def trueF (args : List V) : Option (List Bool × V) := match args with
  | [] => some ([], .bool true)
  | _ => none
theorem trueF_ok {P : Program} {g : FuncId} (hg : PureAt P g [] (.bool true)) (args : List V) (c : List Bool) (v : V) (h : trueF args = some (c, v)) (_ : allB c) : PureAt P g args v := by
  unfold trueF at h
  split at h
  · cases h; exact hg
  · cases h
end Go.Proofs.Ytjjebdfjmbnhpaa
