/-
  Comparisons of a list; whether one holds. Conditions: what any such arguments fulfil.
-/
import Derived.Test.YtjjebdfjmbnhpaaHoldsA
namespace Go.Proofs.Ytjjebdfjmbnhpaa
open Go.Sym
set_option maxRecDepth 100000

noncomputable def indexF (args : List V) : Option (List Bool × V) := match args with
  | [a, .fn g [] []] => (match ofLst cmpE a with
    | some L => bif Nat.beq g 55 then some ([decide (L.length < 2 ^ 62)], .int .i64 (if L.all mayB then -1 else (L.findIdx (fun c => !mayB c) : Nat))) else none
    | none => none)
  | _ => none
theorem indexF_ok (args : List V) (c : List Bool) (v : V) (h : indexF args = some (c, v)) (hc : allB c) : PureAt Try.prog 78 args v := by
  unfold indexF at h
  split at h
  · rename_i a g
    split at h
    · rename_i L hL
      cases hg : Nat.beq g 55 with
      | false => rw [hg] at h; cases h
      | true =>
        rw [hg] at h; cases h
        rw [Nat.eq_of_beq_eq_true hg]
        exact (index_at L (of_decide_eq_true (allB1 hc))).lst0 hL
    · cases h
  · cases h
theorem contains_at (L : List (rowDen cmpE)) (hL : L.length < 2 ^ 62) : PureAt Try.prog 54 [.lst cmpE L false, .fn 55 [] []] (.bool (!L.all mayB)) := by
  refine pure_of_W0 (tab := oneTab 78 indexF noTab) (fuel := 3) (d := 3) (oneTab_ok indexF_ok noTab_ok) ?_
  repeat' (conv => whnf
           first
            | (with_reducible exact True.intro)
            | (with_reducible rfl)
            | (with_reducible exact castL_self _ _)
            | ((with_reducible refine V.same_t ?_); exact rfl)
            | (with_reducible refine iteB_n ?_)
            | ((with_reducible refine andB_i ?_ ?_); · (first | (with_reducible assumption) | (with_reducible exact decide_eq_true rfl) | (with_reducible exact sEq_self _) | (exact decide_eq_true hL)))
            | ((with_reducible refine iteB_t ?_ ?_); · (first | (with_reducible assumption) | (with_reducible exact decide_eq_true rfl) | (with_reducible exact sEq_self _) | (exact decide_eq_true hL)))
            | ((with_reducible refine iteB_f ?_ ?_); · (first | (with_reducible assumption) | (with_reducible exact decide_eq_true rfl) | (with_reducible exact sEq_self _) | (exact decide_eq_true hL)))
            | (with_reducible refine andB_i ?_ ?_)
            | (with_reducible refine iteB_s (fun hB => ?_) (fun hB => ?_))
            | (with_reducible refine CD.wk_as ?_)
            | (with_reducible refine And.intro ?_ ?_))
  all_goals (conv => whnf)
  all_goals refine congrArg V.bool ?_
  all_goals simp only [castL_self]
  all_goals rcases Bool.eq_false_or_eq_true (L.all mayB) with hq | hq <;> simp [hq]
noncomputable def containsF (args : List V) : Option (List Bool × V) := match args with
  | [a, .fn g [] []] => (match ofLst cmpE a with
    | some L => bif Nat.beq g 55 then some ([decide (L.length < 2 ^ 62)], .bool (!L.all mayB)) else none
    | none => none)
  | _ => none
theorem containsF_ok (args : List V) (c : List Bool) (v : V) (h : containsF args = some (c, v)) (hc : allB c) : PureAt Try.prog 54 args v := by
  unfold containsF at h
  split at h
  · rename_i a g
    split at h
    · rename_i L hL
      cases hg : Nat.beq g 55 with
      | false => rw [hg] at h; cases h
      | true =>
        rw [hg] at h; cases h
        rw [Nat.eq_of_beq_eq_true hg]
        exact (contains_at L (of_decide_eq_true (allB1 hc))).lst0 hL
    · cases h
  · cases h
noncomputable def checkI (L : List (rowDen cmpE)) : Int := if 4 < L.length then 3 else if L.all mayB then 0 else 11
theorem check_at (L : List (rowDen cmpE)) (hL : L.length < 2 ^ 62) : PureAt Try.prog 17 [.lst cmpE L false] (.int .i64 (checkI L)) := by
  refine pure_of_W0 (tab := oneTab 54 containsF noTab) (fuel := 3) (d := 4) (oneTab_ok containsF_ok noTab_ok) ?_
  repeat' (conv => whnf
           first
            | (with_reducible exact True.intro)
            | (with_reducible rfl)
            | (with_reducible exact castL_self _ _)
            | ((with_reducible refine V.same_t ?_); exact rfl)
            | (with_reducible refine iteB_n ?_)
            | ((with_reducible refine andB_i ?_ ?_); · (first | (with_reducible assumption) | (with_reducible exact decide_eq_true rfl) | (with_reducible exact sEq_self _) | (exact decide_eq_true hL)))
            | ((with_reducible refine iteB_t ?_ ?_); · (first | (with_reducible assumption) | (with_reducible exact decide_eq_true rfl) | (with_reducible exact sEq_self _) | (exact decide_eq_true hL)))
            | ((with_reducible refine iteB_f ?_ ?_); · (first | (with_reducible assumption) | (with_reducible exact decide_eq_true rfl) | (with_reducible exact sEq_self _) | (exact decide_eq_true hL)))
            | (with_reducible refine andB_i ?_ ?_)
            | (with_reducible refine iteB_s (fun hB => ?_) (fun hB => ?_))
            | (with_reducible refine CD.wk_as ?_)
            | (with_reducible refine And.intro ?_ ?_))
  all_goals (conv => whnf)
  all_goals (try dsimp only at *)
  all_goals (try simp only [Bool.not_eq_true', decide_eq_true_eq, decide_eq_false_iff_not, Bool.not_eq_false', Int.ofNat_eq_natCast, Int.toNat_natCast, Nat.le_eq, Bool.and_eq_true, Bool.or_eq_true, Nat.succ_eq_add_one, castL_self, cond_true, cond_false] at *)
  all_goals (try simp (disch := omega) only [wrap_i64, wrap_i32, wrap_u64, wrap_u32, wrap_u16, wrap_u8] at *)
  all_goals (try omega)
  all_goals refine congrArg (V.int .i64) ?_
  all_goals simp only [checkI]
  all_goals first | (rw [if_pos (by omega)]; done) | (rw [if_neg (by omega)])
  all_goals simp_all
theorem refcheck_at (L : List (rowDen cmpE)) (hL : L.length < 2 ^ 62) : PureAt Try.prog 18 [.lst cmpE L false] (.int .i64 (checkI L)) := by
  refine pure_of_loop tabMay_ok (fuel := 3) (d := 3) 4 (X := { k : Nat // k ≤ L.length ∧ ∀ i, i < k → mayB (Sym.rowAt cmpE L i) = true })
    (fun x => ⟨19, [(0, .lst cmpE L false), (3, .int .i64 x.1)], [], [], 0⟩) (fun x => L.length - x.1)
    (fun _ => .ite (L.all mayB) (.leaf (.exit 0) ⟨19, [], [], [], 0⟩) (.leaf .ret ⟨19, [(2, .int .i64 11)], [], [], 0⟩)) ⟨0, Nat.zero_le _, fun i h => absurd h (Nat.not_lt_zero _)⟩ [] rfl ?_ ?_
  · rintro ⟨k, hk, ha⟩
    repeat' (conv => whnf
             first
              | (with_reducible exact True.intro)
              | (with_reducible rfl)
              | (with_reducible exact castL_self _ _)
              | ((with_reducible refine V.same_t ?_); exact rfl)
              | (with_reducible refine iteB_n ?_)
              | ((with_reducible refine andB_i ?_ ?_); · (first | (with_reducible assumption) | (with_reducible exact decide_eq_true rfl) | (with_reducible exact sEq_self _)))
              | ((with_reducible refine iteB_t ?_ ?_); · (first | (with_reducible assumption) | (with_reducible exact decide_eq_true rfl) | (with_reducible exact sEq_self _)))
              | ((with_reducible refine iteB_f ?_ ?_); · (first | (with_reducible assumption) | (with_reducible exact decide_eq_true rfl) | (with_reducible exact sEq_self _)))
              | (refine ⟨⟨k + 1, ?_, ?_⟩, ?_, rfl, ?_⟩)
              | (with_reducible refine andB_i ?_ ?_)
              | (with_reducible refine iteB_s (fun hB => ?_) (fun hB => ?_))
              | (with_reducible refine CD.wk_as ?_)
              | (with_reducible refine And.intro ?_ ?_))
    all_goals (conv => whnf)
    all_goals (try dsimp only at *)
    all_goals (try simp only [Bool.not_eq_true', decide_eq_true_eq, decide_eq_false_iff_not, Bool.not_eq_false', Int.ofNat_eq_natCast, Int.toNat_natCast, Nat.le_eq, Bool.and_eq_true, Bool.or_eq_true, Nat.succ_eq_add_one, castL_self, cond_true, cond_false] at *)
    all_goals (try simp (disch := omega) only [wrap_i64, wrap_i32, wrap_u64, wrap_u32, wrap_u16, wrap_u8] at *)
    all_goals (try omega)
    all_goals first
      | exact lt_succ_cases ha (by assumption)
      | (have hq : mayB (Sym.rowAt cmpE L k) = false := by assumption
         have ht : L.all mayB = true := by assumption
         have := all_row (e := cmpE) (f := mayB) ht (show k < L.length by omega)
         rw [hq] at this; cases this)
      | (have ht : L.all mayB = false := by assumption
         have := all_rows (e := cmpE) (f := mayB) (L := L) fun i hi => ha i (by omega)
         rw [ht] at this; cases this)
      | trace_state
  · repeat' (conv => whnf
             first
              | (with_reducible exact True.intro)
              | (with_reducible rfl)
              | (with_reducible exact castL_self _ _)
              | ((with_reducible refine V.same_t ?_); exact rfl)
              | (with_reducible refine iteB_n ?_)
              | ((with_reducible refine andB_i ?_ ?_); · (first | (with_reducible assumption) | (with_reducible exact decide_eq_true rfl) | (with_reducible exact sEq_self _)))
              | ((with_reducible refine iteB_t ?_ ?_); · (first | (with_reducible assumption) | (with_reducible exact decide_eq_true rfl) | (with_reducible exact sEq_self _)))
              | ((with_reducible refine iteB_f ?_ ?_); · (first | (with_reducible assumption) | (with_reducible exact decide_eq_true rfl) | (with_reducible exact sEq_self _)))
              | (with_reducible refine andB_i ?_ ?_)
              | (with_reducible refine iteB_s (fun hB => ?_) (fun hB => ?_))
              | (with_reducible refine CD.wk_as ?_)
              | (with_reducible refine And.intro ?_ ?_))
    all_goals (conv => whnf)
    all_goals (try dsimp only at *)
    all_goals (try simp only [Bool.not_eq_true', decide_eq_true_eq, decide_eq_false_iff_not, Bool.not_eq_false', Int.ofNat_eq_natCast, Int.toNat_natCast, Nat.le_eq, Bool.and_eq_true, Bool.or_eq_true, Nat.succ_eq_add_one, castL_self, cond_true, cond_false] at *)
    all_goals (try simp (disch := omega) only [wrap_i64, wrap_i32, wrap_u64, wrap_u32, wrap_u16, wrap_u8] at *)
    all_goals (try omega)
    all_goals refine congrArg (V.int .i64) ?_
    all_goals simp only [checkI]
    all_goals first | (rw [if_pos (by omega)]; done) | (rw [if_neg (by omega)])
    all_goals simp_all
end Go.Proofs.Ytjjebdfjmbnhpaa
