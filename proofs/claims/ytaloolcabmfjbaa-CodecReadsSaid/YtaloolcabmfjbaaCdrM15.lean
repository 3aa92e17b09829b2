/-
  Texts of this claim, one behind the other: CdChk3 CdEn. Each says its own conditions.
-/
import Derived.Test.YtaloolcabmfjbaaCdrM14
import Derived.Test.YtaloolcabmfjbaaCdrM8

set_option linter.unusedVariables false
set_option linter.unusedSimpArgs false
set_option linter.unusedSectionVars false
noncomputable section
namespace Go.Proofs.Ytaloolcabmfjbaa
open Go.Sym
set_option maxRecDepth 100000
set_option maxHeartbeats 4000000
def tabR2 : Tab := oneTab 14 (rqF wrF) (oneTab 41 (rqF stF) noTab)
theorem tabR2_ok : TabOK Try.prog tabR2 := oneTab_ok (rqF_ok fun k cl nm sr C A B rv h => rwrites_at k cl nm rv sr C A B h.1 h.2.1) (oneTab_ok (rqF_ok fun k cl nm sr C A B rv h => rstcheck_at k cl nm rv sr C A B h.1 h.2.1 h.2.2.1) noTab_ok)
section
variable (k cl nm rv : Int) (sr : Bool) (C : List CmQ) (A B : List OpQ)
theorem check_at (wC : cmW C = true) (wA : opW A = true) (wB : opW B = true) (h1 : 0 ≤ cl) (h2 : 0 ≤ nm) (h3 : 0 ≤ rv) : PureAt Try.prog 11 [(.agg [.int .i64 k, .int .u64 cl, .int .u64 nm, .bool sr, .lst cmT C false, .lst opT A false, .lst opT B false, .int .u64 rv])] (.int .i64 (chE k cl nm sr C A B rv)) := by
 cases k with
 | ofNat n =>
  match n with
  | 0 => exact check_0 cl nm rv sr C A B wC wA wB h1 h2 h3
  | 1 => exact check_1 cl nm rv sr C A B wC wA wB h1 h2 h3
  | 2 => exact check_2 cl nm rv sr C A B wC wA wB h1 h2 h3
  | 3 => exact check_3 cl nm rv sr C A B wC wA wB h1 h2 h3
  | n + 4 => exact check_n cl nm rv sr C A B n wC wA wB h1 h2 h3
 | negSucc n => exact check_m cl nm rv sr C A B n wC wA wB h1 h2 h3
theorem rcheck_at (wC : cmW C = true) (wA : opW A = true) (wB : opW B = true) (h1 : 0 ≤ cl) (h2 : 0 ≤ nm) (h3 : 0 ≤ rv) : PureAt Try.prog 12 [(.agg [.int .i64 k, .int .u64 cl, .int .u64 nm, .bool sr, .lst cmT C false, .lst opT A false, .lst opT B false, .int .u64 rv])] (.int .i64 (chE k cl nm sr C A B rv)) := by
 have e := chE_eq k cl nm rv sr C A B
 have es := stE_eq k C A B
 have lC := ((cmW_iff C).1 wC).1
 have lA := ((opW_iff A).1 wA).1
 have lB := ((opW_iff B).1 wB).1
 refine pure_of_W0 (tab := tabR2) (fuel := 4) (d := 6) tabR2_ok ?_
 cases hs : stB k C A B with
 | true =>
  have es : stE k C A B = 0 := by rw [es, hs]; rfl
  cases hw : wrB k A B with
  | true =>
   repeat' ((conv => whnf); first | (with_reducible first | (refine W1.o ?_; constructor) | rfl | exact castL_self _ _) | ((with_reducible refine V.same_t ?_); exact rfl) | ((with_reducible refine andB_room ?_ ?_ ?_); (· kernel_rfl); (· (first | omega | (simp only [lens] <;> omega)))) | ((with_reducible refine W2.o ?_; constructor); · (first | with_reducible assumption | omega | (simp only [lens] <;> omega))) | ((with_reducible refine W3.o ?_; constructor); · (first | with_reducible assumption | omega | (simp only [lens] <;> omega))) | ((with_reducible refine W4.o ?_; constructor); · (first | (with_reducible first | assumption | exact decide_eq_true rfl | exact sEq_self _) | ((with_reducible refine eqOK_i ?_); kernel_rfl) | exact wC | exact wA | exact wB | exact hw)) | ((with_reducible refine iteB_f ?_ ?_); · (first | (with_reducible first | assumption | exact decide_eq_true rfl | exact sEq_self _) | ((with_reducible refine eqOK_i ?_); kernel_rfl) | exact wC | exact wA | exact wB | exact hw)) | (with_reducible refine W5.o ?_; constructor) | ((with_reducible refine W6.o ?_; constructor) <;> intro hB))
   all_goals ((conv => whnf); (try dsimp only); (try simp only [Nat.succ_eq_add_one, Nat.le_eq, castL_self]); (try omega))
   all_goals (try (first | omega | (simp only [lens] <;> omega)))
   all_goals (rw [e]; clear e)
   all_goals first
    | (refine dec11 ?_; (try rw [hs]); (try rw [hw]); (try clear es); (try cases sr) <;> (try simp only [castL_self, eq_self, reduceCtorEq, and_true, and_false, true_and, false_and, or_false, false_or, not_false_eq_true, not_true_eq_false] at *) <;> omega)
    | (refine dec0 ?_; (try rw [hs]); (try rw [hw]); (try clear es); (try cases sr) <;> (try simp only [castL_self, eq_self, reduceCtorEq, and_true, and_false, true_and, false_and, or_false, false_or, not_false_eq_true, not_true_eq_false] at *) <;> omega)
  | false =>
   repeat' ((conv => whnf); first | (with_reducible first | (refine W1.o ?_; constructor) | rfl | exact castL_self _ _) | ((with_reducible refine V.same_t ?_); exact rfl) | ((with_reducible refine andB_room ?_ ?_ ?_); (· kernel_rfl); (· (first | omega | (simp only [lens] <;> omega)))) | ((with_reducible refine W2.o ?_; constructor); · (first | with_reducible assumption | omega | (simp only [lens] <;> omega))) | ((with_reducible refine W3.o ?_; constructor); · (first | with_reducible assumption | omega | (simp only [lens] <;> omega))) | ((with_reducible refine W4.o ?_; constructor); · (first | (with_reducible first | assumption | exact decide_eq_true rfl | exact sEq_self _) | ((with_reducible refine eqOK_i ?_); kernel_rfl) | exact wC | exact wA | exact wB | exact hw)) | ((with_reducible refine iteB_f ?_ ?_); · (first | (with_reducible first | assumption | exact decide_eq_true rfl | exact sEq_self _) | ((with_reducible refine eqOK_i ?_); kernel_rfl) | exact wC | exact wA | exact wB | exact hw)) | (with_reducible refine W5.o ?_; constructor) | ((with_reducible refine W6.o ?_; constructor) <;> intro hB))
   all_goals ((conv => whnf); (try dsimp only); (try simp only [Nat.succ_eq_add_one, Nat.le_eq, castL_self]); (try omega))
   all_goals (try (first | omega | (simp only [lens] <;> omega)))
   all_goals (rw [e]; clear e)
   all_goals first
    | (refine dec11 ?_; (try rw [hs]); (try rw [hw]); (try clear es); (try cases sr) <;> (try simp only [castL_self, eq_self, reduceCtorEq, and_true, and_false, true_and, false_and, or_false, false_or, not_false_eq_true, not_true_eq_false] at *) <;> omega)
    | (refine dec0 ?_; (try rw [hs]); (try rw [hw]); (try clear es); (try cases sr) <;> (try simp only [castL_self, eq_self, reduceCtorEq, and_true, and_false, true_and, false_and, or_false, false_or, not_false_eq_true, not_true_eq_false] at *) <;> omega)
 | false =>
  have es : stE k C A B = 11 := by rw [es, hs]; rfl
  cases hw : wrB k A B with
  | true =>
   repeat' ((conv => whnf); first | (with_reducible first | (refine W1.o ?_; constructor) | rfl | exact castL_self _ _) | ((with_reducible refine V.same_t ?_); exact rfl) | ((with_reducible refine andB_room ?_ ?_ ?_); (· kernel_rfl); (· (first | omega | (simp only [lens] <;> omega)))) | ((with_reducible refine W2.o ?_; constructor); · (first | with_reducible assumption | omega | (simp only [lens] <;> omega))) | ((with_reducible refine W3.o ?_; constructor); · (first | with_reducible assumption | omega | (simp only [lens] <;> omega))) | ((with_reducible refine W4.o ?_; constructor); · (first | (with_reducible first | assumption | exact decide_eq_true rfl | exact sEq_self _) | ((with_reducible refine eqOK_i ?_); kernel_rfl) | exact wC | exact wA | exact wB | exact hw)) | ((with_reducible refine iteB_f ?_ ?_); · (first | (with_reducible first | assumption | exact decide_eq_true rfl | exact sEq_self _) | ((with_reducible refine eqOK_i ?_); kernel_rfl) | exact wC | exact wA | exact wB | exact hw)) | (with_reducible refine W5.o ?_; constructor) | ((with_reducible refine W6.o ?_; constructor) <;> intro hB))
   all_goals ((conv => whnf); (try dsimp only); (try simp only [Nat.succ_eq_add_one, Nat.le_eq, castL_self]); (try omega))
   all_goals (try (first | omega | (simp only [lens] <;> omega)))
   all_goals (rw [e]; clear e)
   all_goals first
    | (refine dec11 ?_; (try rw [hs]); (try rw [hw]); (try clear es); (try cases sr) <;> (try simp only [castL_self, eq_self, reduceCtorEq, and_true, and_false, true_and, false_and, or_false, false_or, not_false_eq_true, not_true_eq_false] at *) <;> omega)
    | (refine dec0 ?_; (try rw [hs]); (try rw [hw]); (try clear es); (try cases sr) <;> (try simp only [castL_self, eq_self, reduceCtorEq, and_true, and_false, true_and, false_and, or_false, false_or, not_false_eq_true, not_true_eq_false] at *) <;> omega)
  | false =>
   repeat' ((conv => whnf); first | (with_reducible first | (refine W1.o ?_; constructor) | rfl | exact castL_self _ _) | ((with_reducible refine V.same_t ?_); exact rfl) | ((with_reducible refine andB_room ?_ ?_ ?_); (· kernel_rfl); (· (first | omega | (simp only [lens] <;> omega)))) | ((with_reducible refine W2.o ?_; constructor); · (first | with_reducible assumption | omega | (simp only [lens] <;> omega))) | ((with_reducible refine W3.o ?_; constructor); · (first | with_reducible assumption | omega | (simp only [lens] <;> omega))) | ((with_reducible refine W4.o ?_; constructor); · (first | (with_reducible first | assumption | exact decide_eq_true rfl | exact sEq_self _) | ((with_reducible refine eqOK_i ?_); kernel_rfl) | exact wC | exact wA | exact wB | exact hw)) | ((with_reducible refine iteB_f ?_ ?_); · (first | (with_reducible first | assumption | exact decide_eq_true rfl | exact sEq_self _) | ((with_reducible refine eqOK_i ?_); kernel_rfl) | exact wC | exact wA | exact wB | exact hw)) | (with_reducible refine W5.o ?_; constructor) | ((with_reducible refine W6.o ?_; constructor) <;> intro hB))
   all_goals ((conv => whnf); (try dsimp only); (try simp only [Nat.succ_eq_add_one, Nat.le_eq, castL_self]); (try omega))
   all_goals (try (first | omega | (simp only [lens] <;> omega)))
   all_goals (rw [e]; clear e)
   all_goals first
    | (refine dec11 ?_; (try rw [hs]); (try rw [hw]); (try clear es); (try cases sr) <;> (try simp only [castL_self, eq_self, reduceCtorEq, and_true, and_false, true_and, false_and, or_false, false_or, not_false_eq_true, not_true_eq_false] at *) <;> omega)
    | (refine dec0 ?_; (try rw [hs]); (try rw [hw]); (try clear es); (try cases sr) <;> (try simp only [castL_self, eq_self, reduceCtorEq, and_true, and_false, true_and, false_and, or_false, false_or, not_false_eq_true, not_true_eq_false] at *) <;> omega)
end
end Go.Proofs.Ytaloolcabmfjbaa
end

noncomputable section
namespace Go.Proofs.Ytaloolcabmfjbaa
open Go.Sym
set_option maxRecDepth 100000
set_option maxHeartbeats 4000000
theorem truth_at (b : Bool) : PureAt Try.prog 27 [.bool b] (.int .u64 (tI b)) := by
 have e := tI_eq b
 cases b
 all_goals
  refine pure_of_W0 (tab := noTab) (fuel := 3) (d := 4) noTab_ok ?_
  repeat' ((conv => whnf); first | (with_reducible first | (refine W1.o ?_; constructor) | rfl | exact castL_self _ _) | ((with_reducible refine V.same_t ?_); exact rfl) | ((with_reducible refine andB_room ?_ ?_ ?_); (· kernel_rfl); (· (first | omega | (simp only [lens] <;> omega)))) | ((with_reducible refine W2.o ?_; constructor); · (first | with_reducible assumption | omega | (simp only [lens] <;> omega))) | ((with_reducible refine W3.o ?_; constructor); · (first | with_reducible assumption | omega | (simp only [lens] <;> omega))) | ((with_reducible refine W4.o ?_; constructor); · (first | (with_reducible first | assumption | exact decide_eq_true rfl | exact sEq_self _) | ((with_reducible refine eqOK_i ?_); kernel_rfl))) | ((with_reducible refine iteB_f ?_ ?_); · (first | (with_reducible first | assumption | exact decide_eq_true rfl | exact sEq_self _) | ((with_reducible refine eqOK_i ?_); kernel_rfl))) | (with_reducible refine W5.o ?_; constructor) | ((with_reducible refine W6.o ?_; constructor) <;> intro hB))
  all_goals ((conv => whnf); (try dsimp only); (try simp only [Nat.succ_eq_add_one, Nat.le_eq, castL_self]); (try omega))
  all_goals (try (first | omega | (simp only [lens] <;> omega)))
  all_goals first
   | (rw [e]; exact rfl)
theorem rtruth_at (b : Bool) : PureAt Try.prog 33 [.bool b] (.int .u64 (tI b)) := by
 have e := tI_eq b
 cases b
 all_goals
  refine pure_of_W0 (tab := noTab) (fuel := 3) (d := 4) noTab_ok ?_
  repeat' ((conv => whnf); first | (with_reducible first | (refine W1.o ?_; constructor) | rfl | exact castL_self _ _) | ((with_reducible refine V.same_t ?_); exact rfl) | ((with_reducible refine andB_room ?_ ?_ ?_); (· kernel_rfl); (· (first | omega | (simp only [lens] <;> omega)))) | ((with_reducible refine W2.o ?_; constructor); · (first | with_reducible assumption | omega | (simp only [lens] <;> omega))) | ((with_reducible refine W3.o ?_; constructor); · (first | with_reducible assumption | omega | (simp only [lens] <;> omega))) | ((with_reducible refine W4.o ?_; constructor); · (first | (with_reducible first | assumption | exact decide_eq_true rfl | exact sEq_self _) | ((with_reducible refine eqOK_i ?_); kernel_rfl))) | ((with_reducible refine iteB_f ?_ ?_); · (first | (with_reducible first | assumption | exact decide_eq_true rfl | exact sEq_self _) | ((with_reducible refine eqOK_i ?_); kernel_rfl))) | (with_reducible refine W5.o ?_; constructor) | ((with_reducible refine W6.o ?_; constructor) <;> intro hB))
  all_goals ((conv => whnf); (try dsimp only); (try simp only [Nat.succ_eq_add_one, Nat.le_eq, castL_self]); (try omega))
  all_goals (try (first | omega | (simp only [lens] <;> omega)))
  all_goals first
   | (rw [e]; exact rfl)
def tiF (args : List V) : Option (List Bool × V) := match args with
 | [.bool b] => some ([], .int .u64 (tI b))
 | _ => none
theorem tiF_is {P : Program} {g : FuncId} (hg : ∀ b, PureAt P g [.bool b] (.int .u64 (tI b))) (args : List V) (c : List Bool) (v : V) (h : tiF args = some (c, v)) (_ : allB c) : PureAt P g args v := by
 unfold tiF at h
 split at h
 ·cases h; exact hg _
 ·cases h
def tabE0 : Tab := oneTab 27 tiF tabP
theorem tabE0_ok : TabOK Try.prog tabE0 := oneTab_ok (tiF_is truth_at) tabP_ok
def tabE0r : Tab := oneTab 33 tiF tabPr
theorem tabE0r_ok : TabOK Try.prog tabE0r := oneTab_ok (tiF_is rtruth_at) tabPr_ok
theorem layCmp_at (s : ByteArray) (key : ByteArray) (w : Int) (h : Int) (n : Int) (val : ByteArray) (hs : s.size ≤ 100000000000000000) (hs0 : key.size ≤ 1000000) (hn3 : 0 ≤ n ∧ n < 18446744073709551616) (hs4 : val.size ≤ 1000000) : PureAt Try.prog 30 [.str s, cmG (key, w, h, n, val)] (.str (s ++ cmY (key, w, h, n, val))) := by
 have e := cmY_eq key w h n val
 have z0 := txtT_le key
 have z1 := numT_le (w % 18446744073709551616)
 have z2 := numT_le (h % 18446744073709551616)
 have z3 := numT_le n
 have z4 := txtT_le val
 refine pure_of_W0 (tab := tabE0) (fuel := 12) (d := 5) tabE0_ok ?_
 repeat' ((conv => whnf); first | (with_reducible first | (refine W1.o ?_; constructor) | rfl | exact castL_self _ _) | ((with_reducible refine V.same_t ?_); exact rfl) | ((with_reducible refine andB_room ?_ ?_ ?_); (· kernel_rfl); (· (first | omega | (simp only [lens] <;> omega)))) | ((with_reducible refine W2.o ?_; constructor); · (first | with_reducible assumption | omega | (simp only [lens] <;> omega))) | ((with_reducible refine W3.o ?_; constructor); · (first | with_reducible assumption | omega | (simp only [lens] <;> omega))) | ((with_reducible refine W4.o ?_; constructor); · (first | (with_reducible first | assumption | exact decide_eq_true rfl | exact sEq_self _) | ((with_reducible refine eqOK_i ?_); kernel_rfl))) | ((with_reducible refine iteB_f ?_ ?_); · (first | (with_reducible first | assumption | exact decide_eq_true rfl | exact sEq_self _) | ((with_reducible refine eqOK_i ?_); kernel_rfl))) | ((with_reducible refine W2.o ?_; constructor); · (simp only [Sym.rowAt, List.getD_cons_zero, List.getD_cons_succ, Int.zero_add, Nat.zero_add, Int.reduceToNat, Int.reduceAdd, lens] <;> omega)) | ((with_reducible refine W3.o ?_; constructor); · (simp only [Sym.rowAt, List.getD_cons_zero, List.getD_cons_succ, Int.zero_add, Nat.zero_add, Int.reduceToNat, Int.reduceAdd, lens] <;> omega)) | (with_reducible refine W5.o ?_; constructor) | ((with_reducible refine W6.o ?_; constructor) <;> intro hB))
 all_goals ((conv => whnf); (try dsimp only); (try simp only [Nat.succ_eq_add_one, Nat.le_eq, castL_self]); (try omega))
 all_goals (try (first | omega | (simp only [lens] <;> omega)))
 all_goals first
  | exact rfl
  | (rw [e]; simp only [Sym.rowAt, List.getD_cons_zero, List.getD_cons_succ, Int.zero_add, Nat.zero_add, Int.reduceToNat, Int.reduceAdd, ByteArray.append_assoc]; done)
  | (rw [e]; simp only [Sym.rowAt, List.getD_cons_zero, List.getD_cons_succ, Int.zero_add, Nat.zero_add, Int.reduceToNat, Int.reduceAdd, ByteArray.append_assoc]; exact rfl)
  | (simp only [Sym.rowAt, List.getD_cons_zero, List.getD_cons_succ, Int.zero_add, Nat.zero_add, Int.reduceToNat, Int.reduceAdd]; omega)
  | (simp only [Sym.rowAt, List.getD_cons_zero, List.getD_cons_succ, Int.zero_add, Nat.zero_add, Int.reduceToNat, Int.reduceAdd, lens] <;> omega)
theorem of_ltI {a b : Int} (h : ltI a b = true) : a < b := by rw [ltI_eq] at h; exact of_decide_eq_true h
def cmyF (args : List V) : Option (List Bool × V) := match args with
 | [.str s, .agg [.str key, .int .i64 w, .int .i64 h, .int .u64 n, .str val]] => some ([decide (s.size ≤ 100000000000000000), decide (key.size ≤ 1000000), leI 0 n, ltI n 18446744073709551616, decide (val.size ≤ 1000000)], .str (s ++ cmY (key, w, h, n, val)))
 | _ => none
theorem cmyF_ok (args : List V) (c : List Bool) (v : V) (h : cmyF args = some (c, v)) (hc : allB c) : PureAt Try.prog 30 args v := by
 unfold cmyF at h
 split at h
 ·cases h
  obtain ⟨c0, s0, a3, b3, s4, _⟩ := hc
  exact layCmp_at _ _ _ _ _ _ (of_decide_eq_true c0) (of_decide_eq_true s0) ⟨of_leI a3, of_ltI b3⟩ (of_decide_eq_true s4)
 ·cases h
theorem layOp_at (s : ByteArray) (k : Int) (key : ByteArray) (en : ByteArray) (val : ByteArray) (rev : Int) (lim : Int) (cnt : Bool) (ks : Bool) (pv : Bool) (hs : s.size ≤ 100000000000000000) (hs1 : key.size ≤ 1000000) (hs2 : en.size ≤ 1000000) (hs3 : val.size ≤ 1000000) (hn4 : 0 ≤ rev ∧ rev < 18446744073709551616) : PureAt Try.prog 31 [.str s, opG (k, key, en, val, rev, lim, cnt, ks, pv)] (.str (s ++ opY (k, key, en, val, rev, lim, cnt, ks, pv))) := by
 have e := opY_eq k key en val rev lim cnt ks pv
 have z0 := numT_le (k % 18446744073709551616)
 have z1 := txtT_le key
 have z2 := txtT_le en
 have z3 := txtT_le val
 have z4 := numT_le rev
 have z5 := numT_le (lim % 18446744073709551616)
 have z6 := numT_le (tI cnt)
 have t6 := tI_in cnt
 have z7 := numT_le (tI ks)
 have t7 := tI_in ks
 have z8 := numT_le (tI pv)
 have t8 := tI_in pv
 refine pure_of_W0 (tab := tabE0) (fuel := 12) (d := 5) tabE0_ok ?_
 repeat' ((conv => whnf); first | (with_reducible first | (refine W1.o ?_; constructor) | rfl | exact castL_self _ _) | ((with_reducible refine V.same_t ?_); exact rfl) | ((with_reducible refine andB_room ?_ ?_ ?_); (· kernel_rfl); (· (first | omega | (simp only [lens] <;> omega)))) | ((with_reducible refine W2.o ?_; constructor); · (first | with_reducible assumption | omega | (simp only [lens] <;> omega))) | ((with_reducible refine W3.o ?_; constructor); · (first | with_reducible assumption | omega | (simp only [lens] <;> omega))) | ((with_reducible refine W4.o ?_; constructor); · (first | (with_reducible first | assumption | exact decide_eq_true rfl | exact sEq_self _) | ((with_reducible refine eqOK_i ?_); kernel_rfl))) | ((with_reducible refine iteB_f ?_ ?_); · (first | (with_reducible first | assumption | exact decide_eq_true rfl | exact sEq_self _) | ((with_reducible refine eqOK_i ?_); kernel_rfl))) | ((with_reducible refine W2.o ?_; constructor); · (simp only [Sym.rowAt, List.getD_cons_zero, List.getD_cons_succ, Int.zero_add, Nat.zero_add, Int.reduceToNat, Int.reduceAdd, lens] <;> omega)) | ((with_reducible refine W3.o ?_; constructor); · (simp only [Sym.rowAt, List.getD_cons_zero, List.getD_cons_succ, Int.zero_add, Nat.zero_add, Int.reduceToNat, Int.reduceAdd, lens] <;> omega)) | (with_reducible refine W5.o ?_; constructor) | ((with_reducible refine W6.o ?_; constructor) <;> intro hB))
 all_goals ((conv => whnf); (try dsimp only); (try simp only [Nat.succ_eq_add_one, Nat.le_eq, castL_self]); (try omega))
 all_goals (try (first | omega | (simp only [lens] <;> omega)))
 all_goals first
  | exact rfl
  | (rw [e]; simp only [Sym.rowAt, List.getD_cons_zero, List.getD_cons_succ, Int.zero_add, Nat.zero_add, Int.reduceToNat, Int.reduceAdd, ByteArray.append_assoc]; done)
  | (rw [e]; simp only [Sym.rowAt, List.getD_cons_zero, List.getD_cons_succ, Int.zero_add, Nat.zero_add, Int.reduceToNat, Int.reduceAdd, ByteArray.append_assoc]; exact rfl)
  | (simp only [Sym.rowAt, List.getD_cons_zero, List.getD_cons_succ, Int.zero_add, Nat.zero_add, Int.reduceToNat, Int.reduceAdd]; omega)
  | (simp only [Sym.rowAt, List.getD_cons_zero, List.getD_cons_succ, Int.zero_add, Nat.zero_add, Int.reduceToNat, Int.reduceAdd, lens] <;> omega)
def opyF (args : List V) : Option (List Bool × V) := match args with
 | [.str s, .agg [.int .i64 k, .str key, .str en, .str val, .int .u64 rev, .int .i64 lim, .bool cnt, .bool ks, .bool pv]] => some ([decide (s.size ≤ 100000000000000000), decide (key.size ≤ 1000000), decide (en.size ≤ 1000000), decide (val.size ≤ 1000000), leI 0 rev, ltI rev 18446744073709551616], .str (s ++ opY (k, key, en, val, rev, lim, cnt, ks, pv)))
 | _ => none
theorem opyF_ok (args : List V) (c : List Bool) (v : V) (h : opyF args = some (c, v)) (hc : allB c) : PureAt Try.prog 31 args v := by
 unfold opyF at h
 split at h
 ·cases h
  obtain ⟨c0, s1, s2, s3, a4, b4, _⟩ := hc
  exact layOp_at _ _ _ _ _ _ _ _ _ _ (of_decide_eq_true c0) (of_decide_eq_true s1) (of_decide_eq_true s2) (of_decide_eq_true s3) ⟨of_leI a4, of_ltI b4⟩
 ·cases h
theorem layKV_at (s : ByteArray) (key : ByteArray) (val : ByteArray) (cr : Int) (md : Int) (ver : Int) (hs : s.size ≤ 100000000000000000) (hs0 : key.size ≤ 1000000) (hs1 : val.size ≤ 1000000) (hn2 : 0 ≤ cr ∧ cr < 18446744073709551616) (hn3 : 0 ≤ md ∧ md < 18446744073709551616) (hn4 : 0 ≤ ver ∧ ver < 18446744073709551616) : PureAt Try.prog 88 [.str s, kvG (key, val, cr, md, ver)] (.str (s ++ kvY (key, val, cr, md, ver))) := by
 have e := kvY_eq key val cr md ver
 have z0 := txtT_le key
 have z1 := txtT_le val
 have z2 := numT_le cr
 have z3 := numT_le md
 have z4 := numT_le ver
 refine pure_of_W0 (tab := tabE0) (fuel := 12) (d := 5) tabE0_ok ?_
 repeat' ((conv => whnf); first | (with_reducible first | (refine W1.o ?_; constructor) | rfl | exact castL_self _ _) | ((with_reducible refine V.same_t ?_); exact rfl) | ((with_reducible refine andB_room ?_ ?_ ?_); (· kernel_rfl); (· (first | omega | (simp only [lens] <;> omega)))) | ((with_reducible refine W2.o ?_; constructor); · (first | with_reducible assumption | omega | (simp only [lens] <;> omega))) | ((with_reducible refine W3.o ?_; constructor); · (first | with_reducible assumption | omega | (simp only [lens] <;> omega))) | ((with_reducible refine W4.o ?_; constructor); · (first | (with_reducible first | assumption | exact decide_eq_true rfl | exact sEq_self _) | ((with_reducible refine eqOK_i ?_); kernel_rfl))) | ((with_reducible refine iteB_f ?_ ?_); · (first | (with_reducible first | assumption | exact decide_eq_true rfl | exact sEq_self _) | ((with_reducible refine eqOK_i ?_); kernel_rfl))) | ((with_reducible refine W2.o ?_; constructor); · (simp only [Sym.rowAt, List.getD_cons_zero, List.getD_cons_succ, Int.zero_add, Nat.zero_add, Int.reduceToNat, Int.reduceAdd, lens] <;> omega)) | ((with_reducible refine W3.o ?_; constructor); · (simp only [Sym.rowAt, List.getD_cons_zero, List.getD_cons_succ, Int.zero_add, Nat.zero_add, Int.reduceToNat, Int.reduceAdd, lens] <;> omega)) | (with_reducible refine W5.o ?_; constructor) | ((with_reducible refine W6.o ?_; constructor) <;> intro hB))
 all_goals ((conv => whnf); (try dsimp only); (try simp only [Nat.succ_eq_add_one, Nat.le_eq, castL_self]); (try omega))
 all_goals (try (first | omega | (simp only [lens] <;> omega)))
 all_goals first
  | exact rfl
  | (rw [e]; simp only [Sym.rowAt, List.getD_cons_zero, List.getD_cons_succ, Int.zero_add, Nat.zero_add, Int.reduceToNat, Int.reduceAdd, ByteArray.append_assoc]; done)
  | (rw [e]; simp only [Sym.rowAt, List.getD_cons_zero, List.getD_cons_succ, Int.zero_add, Nat.zero_add, Int.reduceToNat, Int.reduceAdd, ByteArray.append_assoc]; exact rfl)
  | (simp only [Sym.rowAt, List.getD_cons_zero, List.getD_cons_succ, Int.zero_add, Nat.zero_add, Int.reduceToNat, Int.reduceAdd]; omega)
  | (simp only [Sym.rowAt, List.getD_cons_zero, List.getD_cons_succ, Int.zero_add, Nat.zero_add, Int.reduceToNat, Int.reduceAdd, lens] <;> omega)
def kvyF (args : List V) : Option (List Bool × V) := match args with
 | [.str s, .agg [.str key, .str val, .int .u64 cr, .int .u64 md, .int .u64 ver]] => some ([decide (s.size ≤ 100000000000000000), decide (key.size ≤ 1000000), decide (val.size ≤ 1000000), leI 0 cr, ltI cr 18446744073709551616, leI 0 md, ltI md 18446744073709551616, leI 0 ver, ltI ver 18446744073709551616], .str (s ++ kvY (key, val, cr, md, ver)))
 | _ => none
theorem kvyF_ok (args : List V) (c : List Bool) (v : V) (h : kvyF args = some (c, v)) (hc : allB c) : PureAt Try.prog 88 args v := by
 unfold kvyF at h
 split at h
 ·cases h
  obtain ⟨c0, s0, s1, a2, b2, a3, b3, a4, b4, _⟩ := hc
  exact layKV_at _ _ _ _ _ _ (of_decide_eq_true c0) (of_decide_eq_true s0) (of_decide_eq_true s1) ⟨of_leI a2, of_ltI b2⟩ ⟨of_leI a3, of_ltI b3⟩ ⟨of_leI a4, of_ltI b4⟩
 ·cases h
def tabE1 : Tab := oneTab 30 cmyF (oneTab 31 opyF (oneTab 88 kvyF tabE0))
theorem tabE1_ok : TabOK Try.prog tabE1 := oneTab_ok cmyF_ok (oneTab_ok opyF_ok (oneTab_ok kvyF_ok tabE0_ok))
def cmlC (s : ByteArray) (L : List CmQ) (i : Nat) : CD := ⟨27, [(0, .str (s ++ catA cmY L i)), (2, .fn 30 [] []), (15, .lst cmT L false), (16, .int .i64 (L.length : Int)), (17, .int .i64 (i : Int))], [], [], 0⟩
theorem cml_at (s : ByteArray) (L : List CmQ) (hs : s.size ≤ 10000000000000000) (hw : cmW L = true) : PureAt Try.prog 29 [.str s, .lst cmT L false, .fn 30 [] []] (.str (s ++ catZ cmY L)) := by
 have hi := (cmW_iff L).1 hw
 have hl := hi.1
 have hz := cmZ_le L hw
 have e0 := catA_0 cmY L
 have eZ := catZ_eq cmY L
 have z0 := numT_le (L.length : Int)
 have en : (L.length : Int) % 18446744073709551616 = (L.length : Int) := by omega
 have hzL := hz L.length (Nat.le_refl _)
 refine pure_of_loops tabE1_ok (fuel := 4) (d := 5) [⟨3, [], cmlC s L 0, .leaf (.exit 0) (cmlC s L L.length)⟩] (fun N y hy => ?_) ?_
 ·rw [List.mem_singleton.1 hy]
  refine LpD.ok_one (b := bodyAt Try.prog 29 3) rfl (loop_W tabE1_ok (fuel := 4) (d := 5) (X := { i : Nat // i ≤ L.length }) (fun x => cmlC s L x.1) (fun x => L.length - x.1)
    (fun _ => .leaf (.exit 0) (cmlC s L L.length)) (fun _ => noLpW) (fun _ => noLp) (fun _ => noLp_ad) (fun _ => noLp_ok _) ?_ ⟨0, Nat.zero_le _⟩)
  rintro ⟨i, hi2⟩
  dsimp only
  have hzi := hz i hi2
  rcases Nat.lt_or_ge i L.length with hlt | hge
  case' inl =>
   have ei : Int.toNat (i : Int) = i := Int.toNat_natCast i
   obtain ⟨w0, ⟨w3a, w3b⟩, w4⟩ : ((Sym.rowAt cmT L (Int.toNat (i : Int))).1).size ≤ 1000000 ∧ (@LE.le Int _ 0 (Sym.rowAt cmT L (Int.toNat (i : Int))).2.2.2.1 ∧ @LT.lt Int _ (Sym.rowAt cmT L (Int.toNat (i : Int))).2.2.2.1 18446744073709551616) ∧ ((Sym.rowAt cmT L (Int.toNat (i : Int))).2.2.2.2).size ≤ 1000000 := by rw [ei]; exact hi.2 i hlt
   have es : catA cmY L (i + 1) = catA cmY L i ++ cmY (Sym.rowAt cmT L (Int.toNat (i : Int))) := catA_succ cmY L i
  case' inr =>
   have he : i = L.length := Nat.le_antisymm hi2 hge
   subst he
  all_goals
   repeat' ((conv => whnf); first | (with_reducible first | (refine W1.o ?_; constructor) | rfl | exact castL_self _ _) | ((with_reducible refine V.same_t ?_); exact rfl) | ((with_reducible refine andB_room ?_ ?_ ?_); (· kernel_rfl); (· (first | omega | (simp only [lens] <;> omega)))) | ((with_reducible refine W2.o ?_; constructor); · (first | with_reducible assumption | omega | (simp only [lens] <;> omega))) | ((with_reducible refine W3.o ?_; constructor); · (first | with_reducible assumption | omega | (simp only [lens] <;> omega))) | ((with_reducible refine W4.o ?_; constructor); · (first | (with_reducible first | assumption | exact decide_eq_true rfl | exact sEq_self _) | ((with_reducible refine eqOK_i ?_); kernel_rfl))) | ((with_reducible refine iteB_f ?_ ?_); · (first | (with_reducible first | assumption | exact decide_eq_true rfl | exact sEq_self _) | ((with_reducible refine eqOK_i ?_); kernel_rfl))) | (refine ⟨⟨i + 1, hlt⟩, ?_, rfl, ?_⟩) | (with_reducible refine CD.wk_au ?_) | (with_reducible refine W5.o ?_; constructor) | ((with_reducible refine W6.o ?_; constructor) <;> intro hB))
   all_goals ((conv => whnf); (try dsimp only); (try simp only [Nat.succ_eq_add_one, Nat.le_eq, castL_self]); (try omega))
   all_goals (try (first | omega | (simp only [lens] <;> omega)))
   all_goals first
    | exact rfl
    | omega
    | (simp only [lens] <;> omega)
    | (rw [es, ← ByteArray.append_assoc]; done)
    | (rw [es, ← ByteArray.append_assoc]; exact rfl)
 ·repeat' ((conv => whnf); first | (with_reducible first | (refine W1.o ?_; constructor) | rfl | exact castL_self _ _) | ((with_reducible refine V.same_t ?_); exact rfl) | ((with_reducible refine andB_room ?_ ?_ ?_); (· kernel_rfl); (· (first | omega | (simp only [lens] <;> omega)))) | ((with_reducible refine W2.o ?_; constructor); · (first | with_reducible assumption | omega | (simp only [lens] <;> omega))) | ((with_reducible refine W3.o ?_; constructor); · (first | with_reducible assumption | omega | (simp only [lens] <;> omega))) | ((with_reducible refine W4.o ?_; constructor); · (first | (with_reducible first | assumption | exact decide_eq_true rfl | exact sEq_self _) | ((with_reducible refine eqOK_i ?_); kernel_rfl))) | ((with_reducible refine iteB_f ?_ ?_); · (first | (with_reducible first | assumption | exact decide_eq_true rfl | exact sEq_self _) | ((with_reducible refine eqOK_i ?_); kernel_rfl))) | ((with_reducible refine W2.o ?_; constructor); · (simp only [Sym.rowAt, List.getD_cons_zero, List.getD_cons_succ, Int.zero_add, Nat.zero_add, Int.reduceToNat, Int.reduceAdd, lens] <;> omega)) | ((with_reducible refine W3.o ?_; constructor); · (simp only [Sym.rowAt, List.getD_cons_zero, List.getD_cons_succ, Int.zero_add, Nat.zero_add, Int.reduceToNat, Int.reduceAdd, lens] <;> omega)) | (with_reducible refine CD.wk_au ?_) | (with_reducible refine W5.o ?_; constructor) | ((with_reducible refine W6.o ?_; constructor) <;> intro hB))
  all_goals ((conv => whnf); (try dsimp only); (try simp only [Nat.succ_eq_add_one, Nat.le_eq, castL_self]); (try omega))
  all_goals (try (first | omega | (simp only [lens] <;> omega)))
  all_goals first
   | exact rfl
   | (rw [eZ]; done)
   | (simp only [Sym.rowAt, List.getD_cons_zero, List.getD_cons_succ, Int.zero_add, Nat.zero_add, Int.reduceToNat, Int.reduceAdd, en, e0]; done)
def oplC (s : ByteArray) (L : List OpQ) (i : Nat) : CD := ⟨27, [(0, .str (s ++ catA opY L i)), (2, .fn 31 [] []), (15, .lst opT L false), (16, .int .i64 (L.length : Int)), (17, .int .i64 (i : Int))], [], [], 0⟩
theorem opl_at (s : ByteArray) (L : List OpQ) (hs : s.size ≤ 10000000000000000) (hw : opW L = true) : PureAt Try.prog 28 [.str s, .lst opT L false, .fn 31 [] []] (.str (s ++ catZ opY L)) := by
 have hi := (opW_iff L).1 hw
 have hl := hi.1
 have hz := opZ_le L hw
 have e0 := catA_0 opY L
 have eZ := catZ_eq opY L
 have z0 := numT_le (L.length : Int)
 have en : (L.length : Int) % 18446744073709551616 = (L.length : Int) := by omega
 have hzL := hz L.length (Nat.le_refl _)
 refine pure_of_loops tabE1_ok (fuel := 4) (d := 5) [⟨3, [], oplC s L 0, .leaf (.exit 0) (oplC s L L.length)⟩] (fun N y hy => ?_) ?_
 ·rw [List.mem_singleton.1 hy]
  refine LpD.ok_one (b := bodyAt Try.prog 28 3) rfl (loop_W tabE1_ok (fuel := 4) (d := 5) (X := { i : Nat // i ≤ L.length }) (fun x => oplC s L x.1) (fun x => L.length - x.1)
    (fun _ => .leaf (.exit 0) (oplC s L L.length)) (fun _ => noLpW) (fun _ => noLp) (fun _ => noLp_ad) (fun _ => noLp_ok _) ?_ ⟨0, Nat.zero_le _⟩)
  rintro ⟨i, hi2⟩
  dsimp only
  have hzi := hz i hi2
  rcases Nat.lt_or_ge i L.length with hlt | hge
  case' inl =>
   have ei : Int.toNat (i : Int) = i := Int.toNat_natCast i
   obtain ⟨w1, w2, w3, ⟨w4a, w4b⟩⟩ : ((Sym.rowAt opT L (Int.toNat (i : Int))).2.1).size ≤ 1000000 ∧ ((Sym.rowAt opT L (Int.toNat (i : Int))).2.2.1).size ≤ 1000000 ∧ ((Sym.rowAt opT L (Int.toNat (i : Int))).2.2.2.1).size ≤ 1000000 ∧ (@LE.le Int _ 0 (Sym.rowAt opT L (Int.toNat (i : Int))).2.2.2.2.1 ∧ @LT.lt Int _ (Sym.rowAt opT L (Int.toNat (i : Int))).2.2.2.2.1 18446744073709551616) := by rw [ei]; exact hi.2 i hlt
   have es : catA opY L (i + 1) = catA opY L i ++ opY (Sym.rowAt opT L (Int.toNat (i : Int))) := catA_succ opY L i
  case' inr =>
   have he : i = L.length := Nat.le_antisymm hi2 hge
   subst he
  all_goals
   repeat' ((conv => whnf); first | (with_reducible first | (refine W1.o ?_; constructor) | rfl | exact castL_self _ _) | ((with_reducible refine V.same_t ?_); exact rfl) | ((with_reducible refine andB_room ?_ ?_ ?_); (· kernel_rfl); (· (first | omega | (simp only [lens] <;> omega)))) | ((with_reducible refine W2.o ?_; constructor); · (first | with_reducible assumption | omega | (simp only [lens] <;> omega))) | ((with_reducible refine W3.o ?_; constructor); · (first | with_reducible assumption | omega | (simp only [lens] <;> omega))) | ((with_reducible refine W4.o ?_; constructor); · (first | (with_reducible first | assumption | exact decide_eq_true rfl | exact sEq_self _) | ((with_reducible refine eqOK_i ?_); kernel_rfl))) | ((with_reducible refine iteB_f ?_ ?_); · (first | (with_reducible first | assumption | exact decide_eq_true rfl | exact sEq_self _) | ((with_reducible refine eqOK_i ?_); kernel_rfl))) | (refine ⟨⟨i + 1, hlt⟩, ?_, rfl, ?_⟩) | (with_reducible refine CD.wk_au ?_) | (with_reducible refine W5.o ?_; constructor) | ((with_reducible refine W6.o ?_; constructor) <;> intro hB))
   all_goals ((conv => whnf); (try dsimp only); (try simp only [Nat.succ_eq_add_one, Nat.le_eq, castL_self]); (try omega))
   all_goals (try (first | omega | (simp only [lens] <;> omega)))
   all_goals first
    | exact rfl
    | omega
    | (simp only [lens] <;> omega)
    | (rw [es, ← ByteArray.append_assoc]; done)
    | (rw [es, ← ByteArray.append_assoc]; exact rfl)
 ·repeat' ((conv => whnf); first | (with_reducible first | (refine W1.o ?_; constructor) | rfl | exact castL_self _ _) | ((with_reducible refine V.same_t ?_); exact rfl) | ((with_reducible refine andB_room ?_ ?_ ?_); (· kernel_rfl); (· (first | omega | (simp only [lens] <;> omega)))) | ((with_reducible refine W2.o ?_; constructor); · (first | with_reducible assumption | omega | (simp only [lens] <;> omega))) | ((with_reducible refine W3.o ?_; constructor); · (first | with_reducible assumption | omega | (simp only [lens] <;> omega))) | ((with_reducible refine W4.o ?_; constructor); · (first | (with_reducible first | assumption | exact decide_eq_true rfl | exact sEq_self _) | ((with_reducible refine eqOK_i ?_); kernel_rfl))) | ((with_reducible refine iteB_f ?_ ?_); · (first | (with_reducible first | assumption | exact decide_eq_true rfl | exact sEq_self _) | ((with_reducible refine eqOK_i ?_); kernel_rfl))) | ((with_reducible refine W2.o ?_; constructor); · (simp only [Sym.rowAt, List.getD_cons_zero, List.getD_cons_succ, Int.zero_add, Nat.zero_add, Int.reduceToNat, Int.reduceAdd, lens] <;> omega)) | ((with_reducible refine W3.o ?_; constructor); · (simp only [Sym.rowAt, List.getD_cons_zero, List.getD_cons_succ, Int.zero_add, Nat.zero_add, Int.reduceToNat, Int.reduceAdd, lens] <;> omega)) | (with_reducible refine CD.wk_au ?_) | (with_reducible refine W5.o ?_; constructor) | ((with_reducible refine W6.o ?_; constructor) <;> intro hB))
  all_goals ((conv => whnf); (try dsimp only); (try simp only [Nat.succ_eq_add_one, Nat.le_eq, castL_self]); (try omega))
  all_goals (try (first | omega | (simp only [lens] <;> omega)))
  all_goals first
   | exact rfl
   | (rw [eZ]; done)
   | (simp only [Sym.rowAt, List.getD_cons_zero, List.getD_cons_succ, Int.zero_add, Nat.zero_add, Int.reduceToNat, Int.reduceAdd, en, e0]; done)
def kvlC (s : ByteArray) (L : List KvQ) (i : Nat) : CD := ⟨27, [(0, .str (s ++ catA kvY L i)), (2, .fn 88 [] []), (15, .lst kvT L false), (16, .int .i64 (L.length : Int)), (17, .int .i64 (i : Int))], [], [], 0⟩
theorem kvl_at (s : ByteArray) (L : List KvQ) (hs : s.size ≤ 10000000000000000) (hw : kvW L = true) : PureAt Try.prog 87 [.str s, .lst kvT L false, .fn 88 [] []] (.str (s ++ catZ kvY L)) := by
 have hi := (kvW_iff L).1 hw
 have hl := hi.1
 have hz := kvZ_le L hw
 have e0 := catA_0 kvY L
 have eZ := catZ_eq kvY L
 have z0 := numT_le (L.length : Int)
 have en : (L.length : Int) % 18446744073709551616 = (L.length : Int) := by omega
 have hzL := hz L.length (Nat.le_refl _)
 refine pure_of_loops tabE1_ok (fuel := 4) (d := 5) [⟨3, [], kvlC s L 0, .leaf (.exit 0) (kvlC s L L.length)⟩] (fun N y hy => ?_) ?_
 ·rw [List.mem_singleton.1 hy]
  refine LpD.ok_one (b := bodyAt Try.prog 87 3) rfl (loop_W tabE1_ok (fuel := 4) (d := 5) (X := { i : Nat // i ≤ L.length }) (fun x => kvlC s L x.1) (fun x => L.length - x.1)
    (fun _ => .leaf (.exit 0) (kvlC s L L.length)) (fun _ => noLpW) (fun _ => noLp) (fun _ => noLp_ad) (fun _ => noLp_ok _) ?_ ⟨0, Nat.zero_le _⟩)
  rintro ⟨i, hi2⟩
  dsimp only
  have hzi := hz i hi2
  rcases Nat.lt_or_ge i L.length with hlt | hge
  case' inl =>
   have ei : Int.toNat (i : Int) = i := Int.toNat_natCast i
   obtain ⟨w0, w1, ⟨w2a, w2b⟩, ⟨w3a, w3b⟩, ⟨w4a, w4b⟩⟩ : ((Sym.rowAt kvT L (Int.toNat (i : Int))).1).size ≤ 1000000 ∧ ((Sym.rowAt kvT L (Int.toNat (i : Int))).2.1).size ≤ 1000000 ∧ (@LE.le Int _ 0 (Sym.rowAt kvT L (Int.toNat (i : Int))).2.2.1 ∧ @LT.lt Int _ (Sym.rowAt kvT L (Int.toNat (i : Int))).2.2.1 18446744073709551616) ∧ (@LE.le Int _ 0 (Sym.rowAt kvT L (Int.toNat (i : Int))).2.2.2.1 ∧ @LT.lt Int _ (Sym.rowAt kvT L (Int.toNat (i : Int))).2.2.2.1 18446744073709551616) ∧ (@LE.le Int _ 0 (Sym.rowAt kvT L (Int.toNat (i : Int))).2.2.2.2 ∧ @LT.lt Int _ (Sym.rowAt kvT L (Int.toNat (i : Int))).2.2.2.2 18446744073709551616) := by rw [ei]; exact hi.2 i hlt
   have es : catA kvY L (i + 1) = catA kvY L i ++ kvY (Sym.rowAt kvT L (Int.toNat (i : Int))) := catA_succ kvY L i
  case' inr =>
   have he : i = L.length := Nat.le_antisymm hi2 hge
   subst he
  all_goals
   repeat' ((conv => whnf); first | (with_reducible first | (refine W1.o ?_; constructor) | rfl | exact castL_self _ _) | ((with_reducible refine V.same_t ?_); exact rfl) | ((with_reducible refine andB_room ?_ ?_ ?_); (· kernel_rfl); (· (first | omega | (simp only [lens] <;> omega)))) | ((with_reducible refine W2.o ?_; constructor); · (first | with_reducible assumption | omega | (simp only [lens] <;> omega))) | ((with_reducible refine W3.o ?_; constructor); · (first | with_reducible assumption | omega | (simp only [lens] <;> omega))) | ((with_reducible refine W4.o ?_; constructor); · (first | (with_reducible first | assumption | exact decide_eq_true rfl | exact sEq_self _) | ((with_reducible refine eqOK_i ?_); kernel_rfl))) | ((with_reducible refine iteB_f ?_ ?_); · (first | (with_reducible first | assumption | exact decide_eq_true rfl | exact sEq_self _) | ((with_reducible refine eqOK_i ?_); kernel_rfl))) | (refine ⟨⟨i + 1, hlt⟩, ?_, rfl, ?_⟩) | (with_reducible refine CD.wk_au ?_) | (with_reducible refine W5.o ?_; constructor) | ((with_reducible refine W6.o ?_; constructor) <;> intro hB))
   all_goals ((conv => whnf); (try dsimp only); (try simp only [Nat.succ_eq_add_one, Nat.le_eq, castL_self]); (try omega))
   all_goals (try (first | omega | (simp only [lens] <;> omega)))
   all_goals first
    | exact rfl
    | omega
    | (simp only [lens] <;> omega)
    | (rw [es, ← ByteArray.append_assoc]; done)
    | (rw [es, ← ByteArray.append_assoc]; exact rfl)
 ·repeat' ((conv => whnf); first | (with_reducible first | (refine W1.o ?_; constructor) | rfl | exact castL_self _ _) | ((with_reducible refine V.same_t ?_); exact rfl) | ((with_reducible refine andB_room ?_ ?_ ?_); (· kernel_rfl); (· (first | omega | (simp only [lens] <;> omega)))) | ((with_reducible refine W2.o ?_; constructor); · (first | with_reducible assumption | omega | (simp only [lens] <;> omega))) | ((with_reducible refine W3.o ?_; constructor); · (first | with_reducible assumption | omega | (simp only [lens] <;> omega))) | ((with_reducible refine W4.o ?_; constructor); · (first | (with_reducible first | assumption | exact decide_eq_true rfl | exact sEq_self _) | ((with_reducible refine eqOK_i ?_); kernel_rfl))) | ((with_reducible refine iteB_f ?_ ?_); · (first | (with_reducible first | assumption | exact decide_eq_true rfl | exact sEq_self _) | ((with_reducible refine eqOK_i ?_); kernel_rfl))) | ((with_reducible refine W2.o ?_; constructor); · (simp only [Sym.rowAt, List.getD_cons_zero, List.getD_cons_succ, Int.zero_add, Nat.zero_add, Int.reduceToNat, Int.reduceAdd, lens] <;> omega)) | ((with_reducible refine W3.o ?_; constructor); · (simp only [Sym.rowAt, List.getD_cons_zero, List.getD_cons_succ, Int.zero_add, Nat.zero_add, Int.reduceToNat, Int.reduceAdd, lens] <;> omega)) | (with_reducible refine CD.wk_au ?_) | (with_reducible refine W5.o ?_; constructor) | ((with_reducible refine W6.o ?_; constructor) <;> intro hB))
  all_goals ((conv => whnf); (try dsimp only); (try simp only [Nat.succ_eq_add_one, Nat.le_eq, castL_self]); (try omega))
  all_goals (try (first | omega | (simp only [lens] <;> omega)))
  all_goals first
   | exact rfl
   | (rw [eZ]; done)
   | (simp only [Sym.rowAt, List.getD_cons_zero, List.getD_cons_succ, Int.zero_add, Nat.zero_add, Int.reduceToNat, Int.reduceAdd, en, e0]; done)
end Go.Proofs.Ytaloolcabmfjbaa
end
