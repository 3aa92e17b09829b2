/-
  Whether a comparison holds: the program's and the document's functions. Conditions: what any such arguments fulfil.
-/
import Derived.Test.YtjjebdfjmbnhpaaHoldsC
namespace Go.Proofs.Ytjjebdfjmbnhpaa
open Go.Sym
set_option maxRecDepth 100000
set_option maxHeartbeats 4000000

abbrev KvR : Type := ByteArray × ByteArray × Int × Int × Int
def kvA (c : KvR) : V := match c with
  | (k, v, cr, mo, ve) => .agg [.str k, .str v, .int .u64 cr, .int .u64 mo, .int .u64 ve]
noncomputable def fldOf (what : Int) (kv : KvR) (there : Bool) : Int := if there then (if what = 0 then kv.2.2.2.2 else if what = 1 then kv.2.2.1 else kv.2.2.2.1) else 0
noncomputable def holdsB : CmpR → KvR → Bool → Bool := hide fun c kv there =>
  mayB c && (if c.2.1 = 3 then there && cmpHow (sLt kv.2.1 c.2.2.2.2) (sEq kv.2.1 c.2.2.2.2) c.2.2.1 else cmpHow (decide (fldOf c.2.1 kv there < c.2.2.2.1)) (decide (fldOf c.2.1 kv there = c.2.2.2.1)) c.2.2.1)
theorem holdsB_eq (c : CmpR) (kv : KvR) (there : Bool) : holdsB c kv there =
  (mayB c && (if c.2.1 = 3 then there && cmpHow (sLt kv.2.1 c.2.2.2.2) (sEq kv.2.1 c.2.2.2.2) c.2.2.1 else cmpHow (decide (fldOf c.2.1 kv there < c.2.2.2.1)) (decide (fldOf c.2.1 kv there = c.2.2.2.1)) c.2.2.1)) := by rw [holdsB, hide_eq]
theorem may_how {c : CmpR} (hm : mayB c = true) : 0 ≤ c.2.1 ∧ c.2.1 ≤ 3 ∧ 0 ≤ c.2.2.1 ∧ c.2.2.1 ≤ 3 := by
  rw [mayB_eq] at hm
  have := of_decide_eq_true hm
  exact ⟨this.2.2.1, this.2.2.2.1, this.2.2.2.2.1, this.2.2.2.2.2.1⟩
theorem holds_at (c : CmpR) (kv : KvR) (there : Bool) : PureAt Try.prog 15 [cmpA c, kvA kv, .bool there] (.bool (holdsB c kv there)) := by
  obtain ⟨k, what, how, n, v⟩ := c
  obtain ⟨kk, kv, cr, mo, ve⟩ := kv
  cases hm : mayB (k, what, how, n, v) with
  | false =>
    refine pure_of_W0 (tab := tabH) (fuel := 3) (d := 6) tabH_ok ?_
    repeat' (conv => whnf
             first
              | (with_reducible exact True.intro)
              | (with_reducible rfl)
              | (with_reducible exact castL_self _ _)
              | ((with_reducible refine V.same_t ?_); exact rfl)
              | (with_reducible refine iteB_n ?_)
              | ((with_reducible refine andB_i ?_ ?_); · (first | (with_reducible assumption) | (with_reducible exact decide_eq_true rfl) | (with_reducible exact sEq_self _)))
              | ((with_reducible refine iteB_t ?_ ?_); · (first | (with_reducible assumption) | (with_reducible exact decide_eq_true rfl) | (with_reducible exact sEq_self _)))
              | ((with_reducible refine iteB_f ?_ ?_); · (first | (with_reducible assumption) | (with_reducible exact decide_eq_true rfl) | (with_reducible exact sEq_self _)))
              | (with_reducible refine andB_i ?_ ?_)
              | (with_reducible refine iteB_s (fun hB => ?_) (fun hB => ?_))
              | (with_reducible refine CD.wk_as ?_)
              | (with_reducible refine And.intro ?_ ?_))
    all_goals (conv => whnf)
    all_goals simp [holdsB_eq, hm]
  | true =>
    obtain ⟨h1, h2, h3, h4⟩ := may_how hm
    have h3' : decide (0 ≤ how) = true := decide_eq_true h3
    have h4' : decide (how ≤ 3) = true := decide_eq_true h4
    dsimp only at h1 h2
    obtain rfl | rfl | rfl | rfl : what = 0 ∨ what = 1 ∨ what = 2 ∨ what = 3 := by omega
    all_goals clear h1 h2 h3 h4
    all_goals cases there
    all_goals refine pure_of_W0 (tab := tabH) (fuel := 3) (d := 6) tabH_ok ?_
    repeat' (conv => whnf
             first
              | (with_reducible exact True.intro)
              | (with_reducible rfl)
              | (with_reducible exact castL_self _ _)
              | ((with_reducible refine V.same_t ?_); exact rfl)
              | (with_reducible refine iteB_n ?_)
              | ((with_reducible refine andB_i ?_ ?_); · (first | (with_reducible assumption) | (with_reducible exact decide_eq_true rfl) | (with_reducible exact sEq_self _)))
              | ((with_reducible refine iteB_t ?_ ?_); · (first | (with_reducible assumption) | (with_reducible exact decide_eq_true rfl) | (with_reducible exact sEq_self _)))
              | ((with_reducible refine iteB_f ?_ ?_); · (first | (with_reducible assumption) | (with_reducible exact decide_eq_true rfl) | (with_reducible exact sEq_self _)))
              | (with_reducible refine andB_i ?_ ?_)
              | (with_reducible refine iteB_s (fun hB => ?_) (fun hB => ?_))
              | (with_reducible refine CD.wk_as ?_)
              | (with_reducible refine And.intro ?_ ?_))
    all_goals (conv => whnf)
    all_goals refine congrArg V.bool ?_
    all_goals simp [holdsB_eq, hm, fldOf]
theorem refholds_at (c : CmpR) (kv : KvR) (there : Bool) : PureAt Try.prog 16 [cmpA c, kvA kv, .bool there] (.bool (holdsB c kv there)) := by
  obtain ⟨k, what, how, n, v⟩ := c
  obtain ⟨kk, kv, cr, mo, ve⟩ := kv
  cases hm : mayB (k, what, how, n, v) with
  | false =>
    refine pure_of_W0 (tab := tabH) (fuel := 3) (d := 6) tabH_ok ?_
    repeat' (conv => whnf
             first
              | (with_reducible exact True.intro)
              | (with_reducible rfl)
              | (with_reducible exact castL_self _ _)
              | ((with_reducible refine V.same_t ?_); exact rfl)
              | (with_reducible refine iteB_n ?_)
              | ((with_reducible refine andB_i ?_ ?_); · (first | (with_reducible assumption) | (with_reducible exact decide_eq_true rfl) | (with_reducible exact sEq_self _)))
              | ((with_reducible refine iteB_t ?_ ?_); · (first | (with_reducible assumption) | (with_reducible exact decide_eq_true rfl) | (with_reducible exact sEq_self _)))
              | ((with_reducible refine iteB_f ?_ ?_); · (first | (with_reducible assumption) | (with_reducible exact decide_eq_true rfl) | (with_reducible exact sEq_self _)))
              | (with_reducible refine andB_i ?_ ?_)
              | (with_reducible refine iteB_s (fun hB => ?_) (fun hB => ?_))
              | (with_reducible refine CD.wk_as ?_)
              | (with_reducible refine And.intro ?_ ?_))
    all_goals (conv => whnf)
    all_goals simp [holdsB_eq, hm]
  | true =>
    obtain ⟨h1, h2, h3, h4⟩ := may_how hm
    dsimp only at h1 h2
    obtain rfl | rfl | rfl | rfl : what = 0 ∨ what = 1 ∨ what = 2 ∨ what = 3 := by omega
    dsimp only at h3 h4
    all_goals cases there
    all_goals refine pure_of_W0 (tab := tabH) (fuel := 3) (d := 6) tabH_ok ?_
    repeat' (conv => whnf
             first
              | (with_reducible exact True.intro)
              | (with_reducible rfl)
              | (with_reducible exact castL_self _ _)
              | ((with_reducible refine V.same_t ?_); exact rfl)
              | (with_reducible refine iteB_n ?_)
              | ((with_reducible refine andB_i ?_ ?_); · (first | (with_reducible assumption) | (with_reducible exact decide_eq_true rfl) | (with_reducible exact sEq_self _)))
              | ((with_reducible refine iteB_t ?_ ?_); · (first | (with_reducible assumption) | (with_reducible exact decide_eq_true rfl) | (with_reducible exact sEq_self _)))
              | ((with_reducible refine iteB_f ?_ ?_); · (first | (with_reducible assumption) | (with_reducible exact decide_eq_true rfl) | (with_reducible exact sEq_self _)))
              | (with_reducible refine andB_i ?_ ?_)
              | (with_reducible refine iteB_s (fun hB => ?_) (fun hB => ?_))
              | (with_reducible refine CD.wk_as ?_)
              | (with_reducible refine And.intro ?_ ?_))
    all_goals (conv => whnf)
    all_goals (try dsimp only at *)
    all_goals (try simp only [Bool.not_eq_true', decide_eq_true_eq, decide_eq_false_iff_not, Bool.not_eq_false', Int.ofNat_eq_natCast, Int.toNat_natCast, Nat.le_eq, Bool.and_eq_true, Bool.or_eq_true, Nat.succ_eq_add_one, castL_self, cond_true, cond_false] at *)
    all_goals (try simp (disch := omega) only [wrap_i64, wrap_i32, wrap_u64, wrap_u32, wrap_u16, wrap_u8] at *)
    all_goals (try omega)
    all_goals refine congrArg V.bool ?_
    all_goals simp only [holdsB_eq, hm, fldOf, cmpHow_eq, Bool.true_and]
    all_goals first
      | (rw [Bool.eq_iff_iff]; simp_all; done)
      | (rw [Bool.eq_iff_iff]; simp_all; omega)
      | (have e := @sLt_ne kv v
         simp_all; done)
      | (have e := @sLt_ne kv v
         generalize sLt kv v = l at *
         generalize sEq kv v = q at *
         cases l <;> cases q <;> simp_all; done)
      | trace_state
noncomputable def holdsF (args : List V) : Option (List Bool × V) := match args with
  | [.agg [.str k, .int .i64 what, .int .i64 how, .int .u64 n, .str v], .agg [.str kk, .str kv, .int .u64 cr, .int .u64 mo, .int .u64 ve], .bool there] => some ([], .bool (holdsB (k, what, how, n, v) (kk, kv, cr, mo, ve) there))
  | _ => none
theorem holdsF_ok {g : FuncId} (hg : ∀ c kv there, PureAt Try.prog g [cmpA c, kvA kv, .bool there] (.bool (holdsB c kv there))) (args : List V) (c : List Bool) (v : V) (h : holdsF args = some (c, v)) (_ : allB c) : PureAt Try.prog g args v := by
  unfold holdsF at h
  split at h
  · rename_i k what how n v kk kv cr mo ve there
    cases h
    exact hg (k, what, how, n, v) (kk, kv, cr, mo, ve) there
  · cases h
noncomputable def checkF (args : List V) : Option (List Bool × V) := match args with
  | [a] => (match ofLst cmpE a with
    | some L => some ([decide (L.length < 2 ^ 62)], .int .i64 (checkI L))
    | none => none)
  | _ => none
theorem checkF_ok {g : FuncId} (hg : ∀ L : List (rowDen cmpE), L.length < 2 ^ 62 → PureAt Try.prog g [.lst cmpE L false] (.int .i64 (checkI L))) (args : List V) (c : List Bool) (v : V) (h : checkF args = some (c, v)) (hc : allB c) : PureAt Try.prog g args v := by
  unfold checkF at h
  split at h
  · rename_i a
    split at h
    · rename_i L hL
      cases h
      exact (hg L (of_decide_eq_true (allB1 hc))).lst0 hL
    · cases h
  · cases h
noncomputable def tabHolds : Tab := oneTab 15 holdsF (oneTab 16 holdsF (oneTab 17 checkF (oneTab 18 checkF noTab)))
theorem tabHolds_ok : TabOK Try.prog tabHolds :=
  oneTab_ok (holdsF_ok holds_at) (oneTab_ok (holdsF_ok refholds_at) (oneTab_ok (checkF_ok check_at) (oneTab_ok (checkF_ok refcheck_at) noTab_ok)))
end Go.Proofs.Ytjjebdfjmbnhpaa
