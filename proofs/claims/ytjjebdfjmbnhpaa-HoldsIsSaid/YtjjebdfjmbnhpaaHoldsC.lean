/-
  How two things compare. Conditions: a way to compare that is one.
-/
import Derived.Test.YtjjebdfjmbnhpaaHoldsB
namespace Go.Proofs.Ytjjebdfjmbnhpaa
open Go.Sym
set_option maxRecDepth 100000
set_option maxHeartbeats 4000000

noncomputable def cmpHow : Bool → Bool → Int → Bool := hide fun lt eq how => if how = 0 then eq else if how = 1 then !eq else if how = 2 then lt else !lt && !eq
theorem cmpHow_eq (lt eq : Bool) (how : Int) : cmpHow lt eq how = if how = 0 then eq else if how = 1 then !eq else if how = 2 then lt else !lt && !eq := by rw [cmpHow, hide_eq]
theorem compU (a b : Int) (how : Int) (h0 : 0 ≤ how) (h3 : how ≤ 3) : PureAt Try.prog 47 [.int .u64 a, .int .u64 b, .int .i64 how] (.bool (cmpHow (decide (a < b)) (decide (a = b)) how)) := by
  obtain rfl | rfl | rfl | rfl : how = 0 ∨ how = 1 ∨ how = 2 ∨ how = 3 := by omega
  all_goals clear h0 h3
  all_goals refine pure_of_W0 (tab := noTab) (fuel := 3) (d := 6) noTab_ok ?_
  repeat' (conv => whnf
           first
            | (with_reducible exact True.intro)
            | (with_reducible rfl)
            | (with_reducible exact castL_self _ _)
            | ((with_reducible refine V.same_t ?_); exact rfl)
            | (with_reducible refine iteB_n ?_)
            | ((with_reducible refine andB_i ?_ ?_); · (first | (with_reducible assumption) | (with_reducible exact decide_eq_true rfl) | (with_reducible exact sEq_self _)))
            | ((with_reducible refine iteB_t ?_ ?_); · (first | (with_reducible assumption) | (with_reducible exact decide_eq_true rfl) | (with_reducible exact sEq_self _)))
            | ((with_reducible refine iteB_f ?_ ?_); · (first | (with_reducible assumption) | (with_reducible exact decide_eq_true rfl) | (with_reducible exact sEq_self _)))
            | (with_reducible refine andB_i ?_ ?_)
            | (with_reducible refine iteB_s (fun hB => ?_) (fun hB => ?_))
            | (with_reducible refine CD.wk_as ?_)
            | (with_reducible refine And.intro ?_ ?_))
  all_goals (conv => whnf)
  all_goals simp only [decide_eq_true_eq, decide_eq_false_iff_not, cmpHow_eq] at *
  all_goals refine congrArg V.bool ?_
  all_goals simp
  all_goals omega
theorem bl_tri : ∀ (x y : List UInt8), Op.bytesLess y x = (!Op.bytesLess x y && !(x == y))
  | [], [] => by simp [Op.bytesLess]
  | _ :: _, [] => by simp [Op.bytesLess]
  | [], _ :: _ => by simp [Op.bytesLess]
  | a :: x, b :: y => by
    rw [Op.bytesLess, Op.bytesLess, bl_tri x y]
    have h : a < b ∧ ¬ b < a ∧ a ≠ b ∧ b ≠ a ∨ a = b ∧ ¬ a < b ∧ ¬ b < a ∨ b < a ∧ ¬ a < b ∧ a ≠ b ∧ b ≠ a := by
      simp only [UInt8.lt_iff_toNat_lt, ← UInt8.toNat_inj, ne_eq]
      omega
    rcases h with ⟨h1, h2, h3, h4⟩ | ⟨h1, h2, h3⟩ | ⟨h1, h2, h3, h4⟩
    · simp [h1, h2, h3, h4]
    · subst h1; simp [h2]
    · simp [h1, h2, h3, h4]
theorem sEq_iff (a b : ByteArray) : sEq a b = (a.data.toList == b.data.toList) := by
  unfold sEq
  rw [Bool.eq_iff_iff]
  simp only [decide_eq_true_eq, beq_iff_eq]
  exact ⟨fun h => by rw [h], ba_ext⟩
theorem sLt_tri (a b : ByteArray) : sLt b a = (!sLt a b && !sEq a b) := by
  rw [sEq_iff]
  exact bl_tri _ _
theorem sLt_ne {a b : ByteArray} (h : sLt a b = true) : sEq a b = false := by
  cases hq : sEq a b with
  | false => rfl
  | true =>
    have h2 := sLt_tri b a
    have hab : a = b := of_decide_eq_true hq
    subst hab
    rw [h] at h2; simp at h2
theorem compS (a b : ByteArray) (how : Int) (h0 : 0 ≤ how) (h3 : how ≤ 3) : PureAt Try.prog 51 [.str a, .str b, .int .i64 how] (.bool (cmpHow (sLt a b) (sEq a b) how)) := by
  have t := sLt_tri a b
  have e := @sLt_ne a b
  obtain rfl | rfl | rfl | rfl : how = 0 ∨ how = 1 ∨ how = 2 ∨ how = 3 := by omega
  all_goals clear h0 h3
  all_goals refine pure_of_W0 (tab := noTab) (fuel := 3) (d := 6) noTab_ok ?_
  repeat' (conv => whnf
           first
            | (with_reducible exact True.intro)
            | (with_reducible rfl)
            | (with_reducible exact castL_self _ _)
            | ((with_reducible refine V.same_t ?_); exact rfl)
            | (with_reducible refine iteB_n ?_)
            | ((with_reducible refine andB_i ?_ ?_); · (first | (with_reducible assumption) | (with_reducible exact decide_eq_true rfl) | (with_reducible exact sEq_self _)))
            | ((with_reducible refine iteB_t ?_ ?_); · (first | (with_reducible assumption) | (with_reducible exact decide_eq_true rfl) | (with_reducible exact sEq_self _)))
            | ((with_reducible refine iteB_f ?_ ?_); · (first | (with_reducible assumption) | (with_reducible exact decide_eq_true rfl) | (with_reducible exact sEq_self _)))
            | (with_reducible refine andB_i ?_ ?_)
            | (with_reducible refine iteB_s (fun hB => ?_) (fun hB => ?_))
            | (with_reducible refine CD.wk_as ?_)
            | (with_reducible refine And.intro ?_ ?_))
  all_goals (conv => whnf)
  all_goals clear t
  all_goals generalize sLt a b = l at *
  all_goals generalize sEq a b = q at *
  all_goals cases l <;> cases q <;> simp_all [cmpHow_eq]
noncomputable def compF (args : List V) : Option (List Bool × V) := match args with
  | [.int .u64 a, .int .u64 b, .int .i64 how] => some ([decide (0 ≤ how), decide (how ≤ 3)], .bool (cmpHow (decide (a < b)) (decide (a = b)) how))
  | _ => none
noncomputable def compSF (args : List V) : Option (List Bool × V) := match args with
  | [.str a, .str b, .int .i64 how] => some ([decide (0 ≤ how), decide (how ≤ 3)], .bool (cmpHow (sLt a b) (sEq a b) how))
  | _ => none
noncomputable def tabH : Tab := oneTab 47 compF (oneTab 51 compSF tabMay)
theorem tabH_ok : TabOK Try.prog tabH := by
  refine oneTab_ok (fun args c v h hc => ?_) (oneTab_ok (fun args c v h hc => ?_) tabMay_ok)
  · unfold compF at h
    split at h
    · cases h; exact compU _ _ _ (of_decide_eq_true hc.1) (of_decide_eq_true hc.2.1)
    · cases h
  · unfold compSF at h
    split at h
    · cases h; exact compS _ _ _ (of_decide_eq_true hc.1) (of_decide_eq_true hc.2.1)
    · cases h
end Go.Proofs.Ytjjebdfjmbnhpaa
