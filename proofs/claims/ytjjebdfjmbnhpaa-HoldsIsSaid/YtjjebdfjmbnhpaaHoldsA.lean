/-
  Comparisons: which may be, one and of a list. Conditions: what any such arguments fulfil.
-/
import Derived.Test.YtjjebdfjmbnhpaaSymP
import Derived.Test.YtjjebdfjmbnhpaaProg
namespace Go.Proofs.Ytjjebdfjmbnhpaa
open Go.Sym
set_option maxRecDepth 100000

abbrev cmpE : List Ty := [.str, .int .i64, .int .i64, .int .u64, .str]
abbrev CmpR : Type := ByteArray × Int × Int × Int × ByteArray
def cmpA (c : CmpR) : V := match c with
  | (k, what, how, n, v) => .agg [.str k, .int .i64 what, .int .i64 how, .int .u64 n, .str v]
/-- may a comparison be? -/
noncomputable def mayB : CmpR → Bool := hide fun c => decide (1 ≤ c.1.size ∧ c.1.size ≤ 16 ∧ 0 ≤ c.2.1 ∧ c.2.1 ≤ 3 ∧ 0 ≤ c.2.2.1 ∧ c.2.2.1 ≤ 3 ∧ c.2.2.2.2.size ≤ 32 ∧ (if c.2.1 = 3 then c.2.2.2.1 = 0 else c.2.2.2.2 = ⟨#[]⟩))

theorem mayB_eq (c : CmpR) : mayB c = decide (1 ≤ c.1.size ∧ c.1.size ≤ 16 ∧ 0 ≤ c.2.1 ∧ c.2.1 ≤ 3 ∧ 0 ≤ c.2.2.1 ∧ c.2.2.1 ≤ 3 ∧ c.2.2.2.2.size ≤ 32 ∧ (if c.2.1 = 3 then c.2.2.2.1 = 0 else c.2.2.2.2 = ⟨#[]⟩)) := by rw [mayB, hide_eq]
theorem may_at (c : CmpR) : PureAt Try.prog 45 [cmpA c] (.bool (mayB c)) := by
  obtain ⟨k, what, how, n, v⟩ := c
  refine pure_of_W0 (tab := noTab) (fuel := 3) (d := 3) noTab_ok ?_
  repeat' (conv => whnf
           first
            | (with_reducible exact True.intro)
            | (with_reducible rfl)
            | (with_reducible exact castL_self _ _)
            | ((with_reducible refine V.same_t ?_); exact rfl)
            | (with_reducible refine iteB_n ?_)
            | ((with_reducible refine andB_i ?_ ?_); · (first | (with_reducible assumption) | (with_reducible exact decide_eq_true rfl) | (with_reducible exact sEq_self _)))
            | ((with_reducible refine iteB_t ?_ ?_); · (first | (with_reducible assumption) | (with_reducible exact decide_eq_true rfl) | (with_reducible exact sEq_self _)))
            | ((with_reducible refine iteB_f ?_ ?_); · (first | (with_reducible assumption) | (with_reducible exact decide_eq_true rfl) | (with_reducible exact sEq_self _)))
            | (with_reducible refine andB_i ?_ ?_)
            | (with_reducible refine iteB_s (fun hB => ?_) (fun hB => ?_))
            | (with_reducible refine CD.wk_as ?_)
            | (with_reducible refine And.intro ?_ ?_))
  all_goals (conv => whnf)
  all_goals simp only [sEq, cond_true, cond_false, Bool.not_eq_true', decide_eq_true_eq, decide_eq_false_iff_not, Bool.not_eq_false', Int.ofNat_eq_natCast] at *
  all_goals refine congrArg V.bool ?_
  all_goals simp only [mayB_eq]
  all_goals first | (refine (decide_eq_true ?_).symm) | (refine (decide_eq_false ?_).symm) | refine decide_eq_decide.2 ?_
  all_goals (try subst v)
  all_goals (try simp only [size0])
  all_goals (try split)
  all_goals first | omega | (simp_all; done) | (simp_all; omega) | (constructor <;> intro h <;> simp_all <;> omega)
theorem refmay_at (c : CmpR) : PureAt Try.prog 52 [cmpA c] (.bool (mayB c)) := by
  obtain ⟨k, what, how, n, v⟩ := c
  refine pure_of_W0 (tab := noTab) (fuel := 3) (d := 3) noTab_ok ?_
  repeat' (conv => whnf
           first
            | (with_reducible exact True.intro)
            | (with_reducible rfl)
            | (with_reducible exact castL_self _ _)
            | ((with_reducible refine V.same_t ?_); exact rfl)
            | (with_reducible refine iteB_n ?_)
            | ((with_reducible refine andB_i ?_ ?_); · (first | (with_reducible assumption) | (with_reducible exact decide_eq_true rfl) | (with_reducible exact sEq_self _)))
            | ((with_reducible refine iteB_t ?_ ?_); · (first | (with_reducible assumption) | (with_reducible exact decide_eq_true rfl) | (with_reducible exact sEq_self _)))
            | ((with_reducible refine iteB_f ?_ ?_); · (first | (with_reducible assumption) | (with_reducible exact decide_eq_true rfl) | (with_reducible exact sEq_self _)))
            | (with_reducible refine andB_i ?_ ?_)
            | (with_reducible refine iteB_s (fun hB => ?_) (fun hB => ?_))
            | (with_reducible refine CD.wk_as ?_)
            | (with_reducible refine And.intro ?_ ?_))
  all_goals (conv => whnf)
  all_goals simp only [sEq, cond_true, cond_false, Bool.not_eq_true', decide_eq_true_eq, decide_eq_false_iff_not, Bool.not_eq_false', Int.ofNat_eq_natCast] at *
  all_goals refine congrArg V.bool ?_
  all_goals simp only [mayB_eq]
  all_goals first | (refine (decide_eq_true ?_).symm) | (refine (decide_eq_false ?_).symm) | refine decide_eq_decide.2 ?_
  all_goals (try subst v)
  all_goals (try simp only [size0])
  all_goals (try split)
  all_goals first | omega | (simp_all; done) | (simp_all; omega) | (constructor <;> intro h <;> simp_all <;> omega)

noncomputable def mayF : List V → Option (List Bool × V)
  | [.agg [.str k, .int .i64 what, .int .i64 how, .int .u64 n, .str v]] => some ([], .bool (mayB (k, what, how, n, v)))
  | _ => none
theorem mayF_ok {g : FuncId} (h : ∀ c, PureAt Try.prog g [cmpA c] (.bool (mayB c))) (args : List V) (c : List Bool) (v : V) (hF : mayF args = some (c, v)) (_ : allB c) : PureAt Try.prog g args v := by
  unfold mayF at hF
  split at hF
  · rename_i k what how n v
    cases hF
    exact h (k, what, how, n, v)
  · cases hF
noncomputable def tabMay : Tab := oneTab 45 mayF (oneTab 52 mayF noTab)
theorem tabMay_ok : TabOK Try.prog tabMay := oneTab_ok (mayF_ok may_at) (oneTab_ok (mayF_ok refmay_at) noTab_ok)

theorem index_at (L : List (rowDen cmpE)) (hL : L.length < 2 ^ 62) : PureAt Try.prog 78 [.lst cmpE L false, .fn 55 [] []]
    (.int .i64 (if L.all mayB then -1 else (L.findIdx (fun c => !mayB c) : Nat))) := by
  refine pure_of_loop tabMay_ok (fuel := 3) (d := 3) 2 (X := { k : Nat // k ≤ L.length ∧ ∀ i, i < k → mayB (Sym.rowAt cmpE L i) = true })
    (fun x => ⟨19, [(0, .lst cmpE L false), (1, .fn 55 [] []), (7, .int .i64 L.length), (8, .int .i64 x.1)], [], [], 0⟩) (fun x => L.length - x.1)
    (fun _ => .ite (L.all mayB) (.leaf (.exit 0) ⟨19, [], [], [], 0⟩) (.leaf .ret ⟨19, [(4, .int .i64 ((L.findIdx (fun c => !mayB c) : Nat) : Int))], [], [], 0⟩)) ⟨0, Nat.zero_le _, fun i h => absurd h (Nat.not_lt_zero _)⟩ [] rfl ?_ ?_
  · rintro ⟨k, hk, ha⟩
    repeat' (conv => whnf
             first
              | (with_reducible exact True.intro)
              | (with_reducible rfl)
              | (with_reducible exact castL_self _ _)
              | ((with_reducible refine V.same_t ?_); exact rfl)
              | (with_reducible refine iteB_n ?_)
              | ((with_reducible refine andB_i ?_ ?_); · (first | (with_reducible assumption) | (with_reducible exact decide_eq_true rfl) | (with_reducible exact sEq_self _)))
              | ((with_reducible refine iteB_t ?_ ?_); · (first | (with_reducible assumption) | (with_reducible exact decide_eq_true rfl) | (with_reducible exact sEq_self _)))
              | ((with_reducible refine iteB_f ?_ ?_); · (first | (with_reducible assumption) | (with_reducible exact decide_eq_true rfl) | (with_reducible exact sEq_self _)))
              | (refine ⟨⟨k + 1, ?_, ?_⟩, ?_, rfl, ?_⟩)
              | (with_reducible refine andB_i ?_ ?_)
              | (with_reducible refine iteB_s (fun hB => ?_) (fun hB => ?_))
              | (with_reducible refine CD.wk_as ?_)
              | (with_reducible refine And.intro ?_ ?_))
    all_goals (conv => whnf)
    all_goals (try dsimp only at *)
    all_goals (try simp only [Bool.not_eq_true', decide_eq_true_eq, decide_eq_false_iff_not, Bool.not_eq_false', Int.ofNat_eq_natCast, Int.toNat_natCast, Nat.le_eq, Bool.and_eq_true, Bool.or_eq_true, Nat.succ_eq_add_one, castL_self, cond_true, cond_false] at *)
    all_goals (try simp (disch := omega) only [wrap_i64, wrap_i32, wrap_u64, wrap_u32, wrap_u16, wrap_u8] at *)
    all_goals (try omega)
    all_goals first
      | exact lt_succ_cases ha (by assumption)
      | (have hq : mayB (Sym.rowAt cmpE L k) = false := by assumption
         have ht : L.all mayB = true := by assumption
         have := all_row (e := cmpE) (f := mayB) ht (show k < L.length by omega)
         rw [hq] at this; cases this)
      | (have hq : mayB (Sym.rowAt cmpE L k) = false := by assumption
         exact congrArg Nat.cast (findIdx_row (e := cmpE) (f := fun c => !mayB c) (show k < L.length by omega) (fun i hi => by simp [ha i hi]) (by rw [hq]; rfl)).symm)
      | (have ht : L.all mayB = false := by assumption
         have := all_rows (e := cmpE) (f := mayB) (L := L) fun i hi => ha i (by omega)
         rw [ht] at this; cases this)
  · repeat' (conv => whnf
             first
              | (with_reducible exact True.intro)
              | (with_reducible rfl)
              | (with_reducible exact castL_self _ _)
              | ((with_reducible refine V.same_t ?_); exact rfl)
              | (with_reducible refine iteB_n ?_)
              | ((with_reducible refine andB_i ?_ ?_); · (first | (with_reducible assumption) | (with_reducible exact decide_eq_true rfl) | (with_reducible exact sEq_self _)))
              | ((with_reducible refine iteB_t ?_ ?_); · (first | (with_reducible assumption) | (with_reducible exact decide_eq_true rfl) | (with_reducible exact sEq_self _)))
              | ((with_reducible refine iteB_f ?_ ?_); · (first | (with_reducible assumption) | (with_reducible exact decide_eq_true rfl) | (with_reducible exact sEq_self _)))
              | (with_reducible refine andB_i ?_ ?_)
              | (with_reducible refine iteB_s (fun hB => ?_) (fun hB => ?_))
              | (with_reducible refine CD.wk_as ?_)
              | (with_reducible refine And.intro ?_ ?_))
    all_goals (conv => whnf)
    all_goals (try dsimp only at *)
    all_goals (try simp only [Bool.not_eq_true', decide_eq_true_eq, decide_eq_false_iff_not, Bool.not_eq_false', Int.ofNat_eq_natCast, Int.toNat_natCast, Nat.le_eq, Bool.and_eq_true, Bool.or_eq_true, Nat.succ_eq_add_one, castL_self, cond_true, cond_false] at *)
    all_goals (try simp (disch := omega) only [wrap_i64, wrap_i32, wrap_u64, wrap_u32, wrap_u16, wrap_u8] at *)
    all_goals (try omega)
    all_goals simp_all
end Go.Proofs.Ytjjebdfjmbnhpaa
