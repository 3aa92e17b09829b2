/-
  HoldsOne returns true at every value, number and text. Conditions: a number that is none below nought, a text that fits a machine.
-/
import Derived.Test.YtjjebdfjmbnhpaaHoldsE
namespace Go.Proofs.Ytjjebdfjmbnhpaa
open Go.Sym
set_option maxRecDepth 100000
set_option maxHeartbeats 4000000

abbrev aK : ByteArray := ⟨#[97]⟩
theorem may_num (what how n : Int) (h0 : 0 ≤ what) (h2 : what ≤ 2) (h : 0 ≤ how) (h3 : how ≤ 3) : mayB (aK, what, how, n, ⟨#[]⟩) = true := by
  rw [mayB_eq]
  exact decide_eq_true ⟨show 1 ≤ aK.size by decide, show aK.size ≤ 16 by decide, h0, by dsimp only; omega, h, h3, show ByteArray.size ⟨#[]⟩ ≤ 32 by decide, by dsimp only; rw [if_neg (by omega)]⟩
theorem may_val (how : Int) (v : ByteArray) (h : 0 ≤ how) (h3 : how ≤ 3) (hv : v.size ≤ 32) : mayB (aK, 3, how, 0, v) = true := by
  rw [mayB_eq]
  exact decide_eq_true ⟨show 1 ≤ aK.size by decide, show aK.size ≤ 16 by decide, show (0 : Int) ≤ 3 by decide, show (3 : Int) ≤ 3 by decide, h, h3, hv, by simp⟩
theorem three_one (l e : Bool) (h : l = true → e = false) : (cmpHow l e 2).toNat + (cmpHow l e 0).toNat + (cmpHow l e 3).toNat = 1 ∧ cmpHow l e 1 = !cmpHow l e 0 := by
  simp only [cmpHow_eq]
  cases l <;> cases e <;> simp at h <;> decide
theorem one_num (what how n : Int) (kv : KvR) (there : Bool) (h0 : 0 ≤ what) (h2 : what ≤ 2) : oneB (aK, what, how, n, ⟨#[]⟩) kv there = true := by
  have h3 : ¬ what = 3 := by omega
  rw [oneB_eq]
  simp only [holdsB_eq, may_num what _ n h0 h2, Int.reduceLE, h3, if_false, Bool.true_and]
  obtain ⟨q1, q2⟩ := three_one (decide (fldOf what kv there < n)) (decide (fldOf what kv there = n)) (by simp; omega)
  rw [q2]
  simp [q1]
theorem one_val (how : Int) (v : ByteArray) (kv : KvR) (hv : v.size ≤ 32) : oneB (aK, 3, how, 0, v) kv true = true := by
  rw [oneB_eq]
  simp only [holdsB_eq, may_val _ v _ _ hv, Int.reduceLE, if_true, Bool.true_and]
  obtain ⟨q1, q2⟩ := three_one (sLt kv.2.1 v) (sEq kv.2.1 v) sLt_ne
  rw [q2]
  simp [q1]
theorem more_none (what n : Int) (kv : KvR) (hn : 0 ≤ n) (h3 : ¬ what = 3) : holdsB (aK, what, 3, n, ⟨#[]⟩) kv false = false := by
  rw [holdsB_eq]
  simp only [h3, if_false, fldOf, cmpHow_eq]
  rcases Int.lt_or_le 0 n with h | h
  · simp [h]
  · have : n = 0 := by omega
    subst this
    simp
theorem val_none (how : Int) (k v : ByteArray) (n : Int) (kv : KvR) : holdsB (k, 3, how, n, v) kv false = false := by
  rw [holdsB_eq]
  simp

/-- where just one of three holds -/
noncomputable def oneOk : ByteArray → Int → Int → ByteArray → Bool → Bool := hide fun k what n v there => decide (k = aK ∧ ((0 ≤ what ∧ what ≤ 2 ∧ v = ⟨#[]⟩) ∨ (what = 3 ∧ n = 0 ∧ v.size ≤ 32 ∧ there = true)))
theorem oneOk_iff (k : ByteArray) (what n : Int) (v : ByteArray) (there : Bool) : oneOk k what n v there = true ↔ k = aK ∧ ((0 ≤ what ∧ what ≤ 2 ∧ v = ⟨#[]⟩) ∨ (what = 3 ∧ n = 0 ∧ v.size ≤ 32 ∧ there = true)) := by rw [oneOk, hide_eq]; simp only [decide_eq_true_eq]
/-- where a comparison with nothing does not hold -/
noncomputable def noneOk : ByteArray → Int → Int → Int → ByteArray → Bool := hide fun k what how n v => decide (what = 3 ∨ (k = aK ∧ how = 3 ∧ 0 ≤ n ∧ v = ⟨#[]⟩))
theorem noneOk_iff (k : ByteArray) (what how n : Int) (v : ByteArray) : noneOk k what how n v = true ↔ (what = 3 ∨ (k = aK ∧ how = 3 ∧ 0 ≤ n ∧ v = ⟨#[]⟩)) := by rw [noneOk, hide_eq]; simp only [decide_eq_true_eq]
noncomputable def oneF2 (args : List V) : Option (List Bool × V) := match args with
  | [.agg [.str k, .int .i64 what, .int .i64 how, .int .u64 n, .str v], .agg [.str kk, .str kv, .int .u64 cr, .int .u64 mo, .int .u64 ve], .bool there] => some ([oneOk k what n v there], .bool true)
  | _ => none
theorem oneF2_ok (args : List V) (c : List Bool) (v : V) (h : oneF2 args = some (c, v)) (hc : allB c) : PureAt Try.prog 20 args v := by
  unfold oneF2 at h
  split at h
  · rename_i k what how n v kk kv cr mo ve there
    cases h
    obtain ⟨rfl, h | h⟩ := (oneOk_iff _ _ _ _ _).1 hc.1
    · obtain ⟨h0, h2, rfl⟩ := h
      have := one_at (aK, what, how, n, ⟨#[]⟩) (kk, kv, cr, mo, ve) there
      rw [one_num what how n _ there h0 h2] at this
      exact this
    · obtain ⟨rfl, rfl, h3, rfl⟩ := h
      have := one_at (aK, 3, how, 0, v) (kk, kv, cr, mo, ve) true
      rw [one_val how v _ h3] at this
      exact this
  · cases h
noncomputable def holdsF2 (args : List V) : Option (List Bool × V) := match args with
  | [.agg [.str k, .int .i64 what, .int .i64 how, .int .u64 n, .str v], .agg [.str kk, .str kv, .int .u64 cr, .int .u64 mo, .int .u64 ve], .bool there] =>
    bif there then some ([], .bool (holdsB (k, what, how, n, v) (kk, kv, cr, mo, ve) there)) else some ([noneOk k what how n v], .bool false)
  | _ => none
theorem holdsF2_ok (args : List V) (c : List Bool) (v : V) (h : holdsF2 args = some (c, v)) (hc : allB c) : PureAt Try.prog 15 args v := by
  unfold holdsF2 at h
  split at h
  · rename_i k what how n v kk kv cr mo ve there
    have := holds_at (k, what, how, n, v) (kk, kv, cr, mo, ve) there
    cases there with
    | true => rw [cond_true] at h; cases h; exact this
    | false =>
      rw [cond_false] at h
      cases h
      by_cases hw : what = 3
      · subst hw
        rw [val_none] at this
        exact this
      · obtain ⟨rfl, rfl, h3, rfl⟩ := ((noneOk_iff _ _ _ _ _).1 hc.1).resolve_left hw
        rw [more_none what n _ h3 hw] at this
        exact this
  · cases h
noncomputable def tabLaw : Tab := oneTab 19 trueF (oneTab 20 oneF2 (oneTab 15 holdsF2 (oneTab 17 checkF noTab)))
theorem tabLaw_ok : TabOK Try.prog tabLaw := oneTab_ok (trueF_ok works_at14) (oneTab_ok oneF2_ok (oneTab_ok holdsF2_ok (oneTab_ok (checkF_ok check_at) noTab_ok)))
end Go.Proofs.Ytjjebdfjmbnhpaa
