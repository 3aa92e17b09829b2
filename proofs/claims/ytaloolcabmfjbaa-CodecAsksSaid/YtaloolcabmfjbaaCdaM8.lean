/-
  Texts of this claim, one behind the other: CdItm CdMay CdSvL CdReL CdAnyL. Each says its own conditions.
-/
import Derived.Test.YtaloolcabmfjbaaCdaM7
import Derived.Test.YtaloolcabmfjbaaCdaM6

set_option linter.unusedVariables false
set_option linter.unusedSimpArgs false
set_option linter.unusedSectionVars false
section
namespace Go.Proofs.Ytaloolcabmfjbaa
open Go.Sym
set_option linter.unusedVariables false
set_option linter.unusedSimpArgs false
set_option maxRecDepth 100000
set_option maxHeartbeats 4000000
abbrev cmT : List Ty := [.str, .int .i64, .int .i64, .int .u64, .str]
abbrev CmQ : Type := rowDen cmT
abbrev cmG (r : CmQ) : V := .agg [.str r.1, .int .i64 r.2.1, .int .i64 r.2.2.1, .int .u64 r.2.2.2.1, .str r.2.2.2.2]
abbrev opT : List Ty := [.int .i64, .str, .str, .str, .int .u64, .int .i64, .bool, .bool, .bool]
abbrev OpQ : Type := rowDen opT
noncomputable def opR : ByteArray → ByteArray := hide fun s => numR (numR (numR (numR (numR (txR (txR (txR (numR s))))))))
abbrev opG (r : OpQ) : V := .agg [.int .i64 r.1, .str r.2.1, .str r.2.2.1, .str r.2.2.2.1, .int .u64 r.2.2.2.2.1, .int .i64 r.2.2.2.2.2.1, .bool r.2.2.2.2.2.2.1, .bool r.2.2.2.2.2.2.2.1, .bool r.2.2.2.2.2.2.2.2]
abbrev kvT : List Ty := [.str, .str, .int .u64, .int .u64, .int .u64]
abbrev KvQ : Type := rowDen kvT
abbrev kvG (r : KvQ) : V := .agg [.str r.1, .str r.2.1, .int .u64 r.2.2.1, .int .u64 r.2.2.2.1, .int .u64 r.2.2.2.2]
end Go.Proofs.Ytaloolcabmfjbaa
end

section
namespace Go.Proofs.Ytaloolcabmfjbaa
open Go.Sym
set_option linter.unusedVariables false
set_option linter.unusedSimpArgs false
set_option maxRecDepth 100000
set_option maxHeartbeats 4000000
theorem size0 {x : ByteArray} : x.size = 0 ↔ x = ⟨#[]⟩ := ⟨fun h => ba_ext (show x.data.toList = [] from List.length_eq_zero_iff.1 (by rw [Array.length_toList]; exact h)), fun h => by rw [h]; rfl⟩
theorem sEq_d {x : ByteArray} : sEq x ⟨#[]⟩ = decide (x.size = 0) := decide_eq_decide.2 size0.symm
noncomputable def mayO : OpQ → Bool := hide fun r => decide ((0 ≤ r.1 ∧ r.1 ≤ 2) ∧ (1 ≤ r.2.1.size ∧ r.2.1.size ≤ 16) ∧ r.2.2.1.size ≤ 16 ∧ ((r.1 = 0 ∧ r.2.2.2.1.size = 0 ∧ r.2.2.2.2.2.2.2.2 = false ∧ r.2.2.2.2.1 ≤ 1099511627776 ∧ 0 ≤ r.2.2.2.2.2.1 ∧ r.2.2.2.2.2.1 ≤ 1000) ∨ (r.2.2.2.2.1 = 0 ∧ r.2.2.2.2.2.1 = 0 ∧ r.2.2.2.2.2.2.1 = false ∧ r.2.2.2.2.2.2.2.1 = false ∧ r.2.2.2.1.size ≤ 32 ∧ (r.1 = 1 ∧ r.2.2.1.size = 0 ∨ r.1 = 2 ∧ r.2.2.2.1.size = 0))))
theorem mayO_eq (k : Int) (key en val : ByteArray) (rev lim : Int) (cnt ks pv : Bool) : mayO (k, key, en, val, rev, lim, cnt, ks, pv) = decide ((0 ≤ k ∧ k ≤ 2) ∧ (1 ≤ key.size ∧ key.size ≤ 16) ∧ en.size ≤ 16 ∧ ((k = 0 ∧ val.size = 0 ∧ pv = false ∧ rev ≤ 1099511627776 ∧ 0 ≤ lim ∧ lim ≤ 1000) ∨ (rev = 0 ∧ lim = 0 ∧ cnt = false ∧ ks = false ∧ val.size ≤ 32 ∧ (k = 1 ∧ en.size = 0 ∨ k = 2 ∧ val.size = 0)))) := by unfold mayO; rw [hide_eq]
noncomputable def mayC : CmQ → Bool := hide fun r => decide ((1 ≤ r.1.size ∧ r.1.size ≤ 16) ∧ (0 ≤ r.2.1 ∧ r.2.1 ≤ 3) ∧ (0 ≤ r.2.2.1 ∧ r.2.2.1 ≤ 3) ∧ ((¬ r.2.1 = 3 ∧ r.2.2.2.2.size = 0) ∨ (r.2.1 = 3 ∧ r.2.2.2.1 = 0 ∧ r.2.2.2.2.size ≤ 32)))
theorem mayC_eq (key : ByteArray) (w h n : Int) (val : ByteArray) : mayC (key, w, h, n, val) = decide ((1 ≤ key.size ∧ key.size ≤ 16) ∧ (0 ≤ w ∧ w ≤ 3) ∧ (0 ≤ h ∧ h ≤ 3) ∧ ((¬ w = 3 ∧ val.size = 0) ∨ (w = 3 ∧ n = 0 ∧ val.size ≤ 32))) := by unfold mayC; rw [hide_eq]
noncomputable def chgO : OpQ → Bool := hide fun r => decide (r.1 = 1 ∨ r.1 = 2)
theorem chgO_eq (r : OpQ) : chgO r = decide (r.1 = 1 ∨ r.1 = 2) := by unfold chgO; rw [hide_eq]
theorem chg_at (k : Int) (key en val : ByteArray) (rev lim : Int) (cnt ks pv : Bool) : PureAt Try.prog 42 [opG (k, key, en, val, rev, lim, cnt, ks, pv)] (.bool (chgO (k, key, en, val, rev, lim, cnt, ks, pv))) := by
 have e : chgO (k, key, en, val, rev, lim, cnt, ks, pv) = decide (k = 1 ∨ k = 2) := chgO_eq _
 refine pure_of_W0 (tab := noTab) (fuel := 4) (d := 4) noTab_ok ?_
 repeat' ((conv => whnf); first | (with_reducible first | (refine W1.o ?_; constructor) | rfl | exact castL_self _ _) | ((with_reducible refine V.same_t ?_); exact rfl) | ((with_reducible refine andB_room ?_ ?_ ?_); (· kernel_rfl); (· (first | omega | (simp only [lens] <;> omega)))) | ((with_reducible refine W2.o ?_; constructor); · (first | (with_reducible assumption) | (first | omega | (simp only [lens] <;> omega)))) | ((with_reducible refine W3.o ?_; constructor); · (first | (with_reducible assumption) | (first | omega | (simp only [lens] <;> omega)))) | ((with_reducible refine W4.o ?_; constructor); · (first | (with_reducible first | assumption | exact decide_eq_true rfl | exact sEq_self _) | ((with_reducible refine eqOK_i ?_); kernel_rfl))) | ((with_reducible refine iteB_f ?_ ?_); · (first | (with_reducible first | assumption | exact decide_eq_true rfl | exact sEq_self _) | ((with_reducible refine eqOK_i ?_); kernel_rfl))) | (with_reducible refine W5.o ?_; constructor) | ((with_reducible refine W6.o ?_; constructor) <;> intro hB))
 all_goals ((conv => whnf); (try dsimp only); (try simp only [Nat.succ_eq_add_one, Nat.le_eq, castL_self]); (try omega))
 all_goals (try (first | omega | (simp only [lens] <;> omega)))
 all_goals (rw [e])
 all_goals refine congrArg V.bool ?_
 all_goals (try simp only [cond_true, cond_false, leI_eq, ltI_eq, Bool.not_true, Bool.not_false, Bool.not_eq_true', sEq_d, decide_eq_true_eq, decide_eq_false_iff_not] at *)
 all_goals first
  | ((refine (decide_eq_true ?_).symm); (try cases pv) <;> (try cases cnt) <;> (try cases ks) <;> (try simp only [reduceCtorEq, true_and, and_true, false_and, and_false, false_or, or_false, not_true_eq_false, not_false_eq_true] at *) <;> omega)
  | ((refine (decide_eq_false ?_).symm); (try cases pv) <;> (try cases cnt) <;> (try cases ks) <;> (try simp only [reduceCtorEq, true_and, and_true, false_and, and_false, false_or, or_false, not_true_eq_false, not_false_eq_true] at *) <;> omega)
  | ((refine decide_eq_decide.2 ?_); (try cases pv) <;> (try cases cnt) <;> (try cases ks) <;> (try simp only [reduceCtorEq, true_and, and_true, false_and, and_false, false_or, or_false, not_true_eq_false, not_false_eq_true] at *) <;> omega)
  | trace_state
theorem mayO_at (k : Int) (key en val : ByteArray) (rev lim : Int) (cnt ks pv : Bool) (hr : 0 ≤ rev) (z1 : key.size ≤ 1000000000) (z2 : en.size ≤ 1000000000) (z3 : val.size ≤ 1000000000) : PureAt Try.prog 80 [opG (k, key, en, val, rev, lim, cnt, ks, pv)] (.bool (mayO (k, key, en, val, rev, lim, cnt, ks, pv))) := by
 refine pure_of_W0 (tab := noTab) (fuel := 4) (d := 4) noTab_ok ?_
 repeat' ((conv => whnf); first | (with_reducible first | (refine W1.o ?_; constructor) | rfl | exact castL_self _ _) | ((with_reducible refine V.same_t ?_); exact rfl) | ((with_reducible refine andB_room ?_ ?_ ?_); (· kernel_rfl); (· (first | omega | (simp only [lens] <;> omega)))) | ((with_reducible refine W2.o ?_; constructor); · (first | (with_reducible assumption) | (first | omega | (simp only [lens] <;> omega)))) | ((with_reducible refine W3.o ?_; constructor); · (first | (with_reducible assumption) | (first | omega | (simp only [lens] <;> omega)))) | ((with_reducible refine W4.o ?_; constructor); · (first | (with_reducible first | assumption | exact decide_eq_true rfl | exact sEq_self _) | ((with_reducible refine eqOK_i ?_); kernel_rfl))) | ((with_reducible refine iteB_f ?_ ?_); · (first | (with_reducible first | assumption | exact decide_eq_true rfl | exact sEq_self _) | ((with_reducible refine eqOK_i ?_); kernel_rfl))) | (with_reducible refine W5.o ?_; constructor) | ((with_reducible refine W6.o ?_; constructor) <;> intro hB))
 all_goals ((conv => whnf); (try dsimp only); (try simp only [Nat.succ_eq_add_one, Nat.le_eq, castL_self]); (try omega))
 all_goals (try (first | omega | (simp only [lens] <;> omega)))
 all_goals rw [mayO_eq]
 all_goals refine congrArg V.bool ?_
 all_goals (try simp only [cond_true, cond_false, leI_eq, ltI_eq, Bool.not_true, Bool.not_false, Bool.not_eq_true', sEq_d, decide_eq_true_eq, decide_eq_false_iff_not] at *)
 all_goals first
  | ((refine (decide_eq_true ?_).symm); (try cases pv) <;> (try cases cnt) <;> (try cases ks) <;> (try simp only [reduceCtorEq, true_and, and_true, false_and, and_false, false_or, or_false, not_true_eq_false, not_false_eq_true] at *) <;> omega)
  | ((refine (decide_eq_false ?_).symm); (try cases pv) <;> (try cases cnt) <;> (try cases ks) <;> (try simp only [reduceCtorEq, true_and, and_true, false_and, and_false, false_or, or_false, not_true_eq_false, not_false_eq_true] at *) <;> omega)
  | ((refine decide_eq_decide.2 ?_); (try cases pv) <;> (try cases cnt) <;> (try cases ks) <;> (try simp only [reduceCtorEq, true_and, and_true, false_and, and_false, false_or, or_false, not_true_eq_false, not_false_eq_true] at *) <;> omega)
  | trace_state
theorem rmayO_at (k : Int) (key en val : ByteArray) (rev lim : Int) (cnt ks pv : Bool) (hr : 0 ≤ rev) (z1 : key.size ≤ 1000000000) (z2 : en.size ≤ 1000000000) (z3 : val.size ≤ 1000000000) : PureAt Try.prog 83 [opG (k, key, en, val, rev, lim, cnt, ks, pv)] (.bool (mayO (k, key, en, val, rev, lim, cnt, ks, pv))) := by
 refine pure_of_W0 (tab := noTab) (fuel := 4) (d := 4) noTab_ok ?_
 repeat' ((conv => whnf); first | (with_reducible first | (refine W1.o ?_; constructor) | rfl | exact castL_self _ _) | ((with_reducible refine V.same_t ?_); exact rfl) | ((with_reducible refine andB_room ?_ ?_ ?_); (· kernel_rfl); (· (first | omega | (simp only [lens] <;> omega)))) | ((with_reducible refine W2.o ?_; constructor); · (first | (with_reducible assumption) | (first | omega | (simp only [lens] <;> omega)))) | ((with_reducible refine W3.o ?_; constructor); · (first | (with_reducible assumption) | (first | omega | (simp only [lens] <;> omega)))) | ((with_reducible refine W4.o ?_; constructor); · (first | (with_reducible first | assumption | exact decide_eq_true rfl | exact sEq_self _) | ((with_reducible refine eqOK_i ?_); kernel_rfl))) | ((with_reducible refine iteB_f ?_ ?_); · (first | (with_reducible first | assumption | exact decide_eq_true rfl | exact sEq_self _) | ((with_reducible refine eqOK_i ?_); kernel_rfl))) | (with_reducible refine W5.o ?_; constructor) | ((with_reducible refine W6.o ?_; constructor) <;> intro hB))
 all_goals ((conv => whnf); (try dsimp only); (try simp only [Nat.succ_eq_add_one, Nat.le_eq, castL_self]); (try omega))
 all_goals (try (first | omega | (simp only [lens] <;> omega)))
 all_goals rw [mayO_eq]
 all_goals refine congrArg V.bool ?_
 all_goals (try simp only [cond_true, cond_false, leI_eq, ltI_eq, Bool.not_true, Bool.not_false, Bool.not_eq_true', sEq_d, decide_eq_true_eq, decide_eq_false_iff_not] at *)
 all_goals first
  | ((refine (decide_eq_true ?_).symm); (try cases pv) <;> (try cases cnt) <;> (try cases ks) <;> (try simp only [reduceCtorEq, true_and, and_true, false_and, and_false, false_or, or_false, not_true_eq_false, not_false_eq_true] at *) <;> omega)
  | ((refine (decide_eq_false ?_).symm); (try cases pv) <;> (try cases cnt) <;> (try cases ks) <;> (try simp only [reduceCtorEq, true_and, and_true, false_and, and_false, false_or, or_false, not_true_eq_false, not_false_eq_true] at *) <;> omega)
  | ((refine decide_eq_decide.2 ?_); (try cases pv) <;> (try cases cnt) <;> (try cases ks) <;> (try simp only [reduceCtorEq, true_and, and_true, false_and, and_false, false_or, or_false, not_true_eq_false, not_false_eq_true] at *) <;> omega)
  | trace_state
theorem mayC_at (key : ByteArray) (w h n : Int) (val : ByteArray) (hn : 0 ≤ n) (z1 : key.size ≤ 1000000000) (z3 : val.size ≤ 1000000000) : PureAt Try.prog 104 [cmG (key, w, h, n, val)] (.bool (mayC (key, w, h, n, val))) := by
 refine pure_of_W0 (tab := noTab) (fuel := 4) (d := 4) noTab_ok ?_
 repeat' ((conv => whnf); first | (with_reducible first | (refine W1.o ?_; constructor) | rfl | exact castL_self _ _) | ((with_reducible refine V.same_t ?_); exact rfl) | ((with_reducible refine andB_room ?_ ?_ ?_); (· kernel_rfl); (· (first | omega | (simp only [lens] <;> omega)))) | ((with_reducible refine W2.o ?_; constructor); · (first | (with_reducible assumption) | (first | omega | (simp only [lens] <;> omega)))) | ((with_reducible refine W3.o ?_; constructor); · (first | (with_reducible assumption) | (first | omega | (simp only [lens] <;> omega)))) | ((with_reducible refine W4.o ?_; constructor); · (first | (with_reducible first | assumption | exact decide_eq_true rfl | exact sEq_self _) | ((with_reducible refine eqOK_i ?_); kernel_rfl))) | ((with_reducible refine iteB_f ?_ ?_); · (first | (with_reducible first | assumption | exact decide_eq_true rfl | exact sEq_self _) | ((with_reducible refine eqOK_i ?_); kernel_rfl))) | (with_reducible refine W5.o ?_; constructor) | ((with_reducible refine W6.o ?_; constructor) <;> intro hB))
 all_goals ((conv => whnf); (try dsimp only); (try simp only [Nat.succ_eq_add_one, Nat.le_eq, castL_self]); (try omega))
 all_goals (try (first | omega | (simp only [lens] <;> omega)))
 all_goals rw [mayC_eq]
 all_goals refine congrArg V.bool ?_
 all_goals (try simp only [cond_true, cond_false, leI_eq, ltI_eq, Bool.not_true, Bool.not_false, Bool.not_eq_true', sEq_d, decide_eq_true_eq, decide_eq_false_iff_not] at *)
 all_goals first
  | ((refine (decide_eq_true ?_).symm); (try cases pv) <;> (try cases cnt) <;> (try cases ks) <;> (try simp only [reduceCtorEq, true_and, and_true, false_and, and_false, false_or, or_false, not_true_eq_false, not_false_eq_true] at *) <;> omega)
  | ((refine (decide_eq_false ?_).symm); (try cases pv) <;> (try cases cnt) <;> (try cases ks) <;> (try simp only [reduceCtorEq, true_and, and_true, false_and, and_false, false_or, or_false, not_true_eq_false, not_false_eq_true] at *) <;> omega)
  | ((refine decide_eq_decide.2 ?_); (try cases pv) <;> (try cases cnt) <;> (try cases ks) <;> (try simp only [reduceCtorEq, true_and, and_true, false_and, and_false, false_or, or_false, not_true_eq_false, not_false_eq_true] at *) <;> omega)
  | trace_state
theorem rmayC_at (key : ByteArray) (w h n : Int) (val : ByteArray) (hn : 0 ≤ n) (z1 : key.size ≤ 1000000000) (z3 : val.size ≤ 1000000000) : PureAt Try.prog 101 [cmG (key, w, h, n, val)] (.bool (mayC (key, w, h, n, val))) := by
 refine pure_of_W0 (tab := noTab) (fuel := 4) (d := 4) noTab_ok ?_
 repeat' ((conv => whnf); first | (with_reducible first | (refine W1.o ?_; constructor) | rfl | exact castL_self _ _) | ((with_reducible refine V.same_t ?_); exact rfl) | ((with_reducible refine andB_room ?_ ?_ ?_); (· kernel_rfl); (· (first | omega | (simp only [lens] <;> omega)))) | ((with_reducible refine W2.o ?_; constructor); · (first | (with_reducible assumption) | (first | omega | (simp only [lens] <;> omega)))) | ((with_reducible refine W3.o ?_; constructor); · (first | (with_reducible assumption) | (first | omega | (simp only [lens] <;> omega)))) | ((with_reducible refine W4.o ?_; constructor); · (first | (with_reducible first | assumption | exact decide_eq_true rfl | exact sEq_self _) | ((with_reducible refine eqOK_i ?_); kernel_rfl))) | ((with_reducible refine iteB_f ?_ ?_); · (first | (with_reducible first | assumption | exact decide_eq_true rfl | exact sEq_self _) | ((with_reducible refine eqOK_i ?_); kernel_rfl))) | (with_reducible refine W5.o ?_; constructor) | ((with_reducible refine W6.o ?_; constructor) <;> intro hB))
 all_goals ((conv => whnf); (try dsimp only); (try simp only [Nat.succ_eq_add_one, Nat.le_eq, castL_self]); (try omega))
 all_goals (try (first | omega | (simp only [lens] <;> omega)))
 all_goals rw [mayC_eq]
 all_goals refine congrArg V.bool ?_
 all_goals (try simp only [cond_true, cond_false, leI_eq, ltI_eq, Bool.not_true, Bool.not_false, Bool.not_eq_true', sEq_d, decide_eq_true_eq, decide_eq_false_iff_not] at *)
 all_goals first
  | ((refine (decide_eq_true ?_).symm); (try cases pv) <;> (try cases cnt) <;> (try cases ks) <;> (try simp only [reduceCtorEq, true_and, and_true, false_and, and_false, false_or, or_false, not_true_eq_false, not_false_eq_true] at *) <;> omega)
  | ((refine (decide_eq_false ?_).symm); (try cases pv) <;> (try cases cnt) <;> (try cases ks) <;> (try simp only [reduceCtorEq, true_and, and_true, false_and, and_false, false_or, or_false, not_true_eq_false, not_false_eq_true] at *) <;> omega)
  | ((refine decide_eq_decide.2 ?_); (try cases pv) <;> (try cases cnt) <;> (try cases ks) <;> (try simp only [reduceCtorEq, true_and, and_true, false_and, and_false, false_or, or_false, not_true_eq_false, not_false_eq_true] at *) <;> omega)
  | trace_state
end Go.Proofs.Ytaloolcabmfjbaa
end

section
namespace Go.Proofs.Ytaloolcabmfjbaa
open Go.Sym
set_option linter.unusedVariables false
set_option linter.unusedSimpArgs false
set_option maxRecDepth 100000
set_option maxHeartbeats 4000000
noncomputable def opI0 (s : ByteArray) : Nat → ByteArray
 | 0 => numR s
 | i + 1 => opR (opI0 s i)
noncomputable def opI : ByteArray → Nat → ByteArray := hide opI0
noncomputable def opE : ByteArray → ByteArray := hide fun s => opI s (numV s).toNat
end Go.Proofs.Ytaloolcabmfjbaa
end

section
namespace Go.Proofs.Ytaloolcabmfjbaa
open Go.Sym
set_option linter.unusedVariables false
set_option linter.unusedSimpArgs false
set_option maxRecDepth 100000
set_option maxHeartbeats 4000000
end Go.Proofs.Ytaloolcabmfjbaa
end

section
namespace Go.Proofs.Ytaloolcabmfjbaa
open Go.Sym
set_option linter.unusedVariables false
set_option linter.unusedSimpArgs false
section
variable {e : List Ty}
noncomputable def fst0 (p : rowDen e → Bool) (L : List (rowDen e)) : Nat := List.findIdx p L
noncomputable def anyB (p : rowDen e → Bool) : List (rowDen e) → Bool := hide fun L => L.any p
noncomputable def ixI (p : rowDen e → Bool) : List (rowDen e) → Int := hide fun L => if fst0 p L < L.length then (fst0 p L : Int) else -1
theorem anyB_eq (p : rowDen e → Bool) (L : List (rowDen e)) : anyB p L = L.any p := by unfold anyB; rw [hide_eq]
theorem ixI_eq (p : rowDen e → Bool) (L : List (rowDen e)) : ixI p L = if fst0 p L < L.length then (fst0 p L : Int) else -1 := by unfold ixI; rw [hide_eq]
theorem fst0_le (p : rowDen e → Bool) (L : List (rowDen e)) : fst0 p L ≤ L.length := List.findIdx_le_length
theorem fst0_not (p : rowDen e → Bool) (L : List (rowDen e)) {i : Nat} (h : i < fst0 p L) : p (Sym.rowAt e L i) = false := by
 have hl : i < L.length := Nat.lt_of_lt_of_le h (fst0_le p L)
 rw [rowAt_lt hl]
 exact List.not_of_lt_findIdx h
theorem fst0_is (p : rowDen e → Bool) (L : List (rowDen e)) (h : fst0 p L < L.length) : p (Sym.rowAt e L (fst0 p L)) = true := by
 rw [rowAt_lt h]
 exact List.findIdx_getElem (w := h)
theorem ix_in (p : rowDen e → Bool) (L : List (rowDen e)) : (ixI p L = -1 ∧ anyB p L = false ∧ fst0 p L = L.length) ∨ (ixI p L = (fst0 p L : Int) ∧ anyB p L = true ∧ fst0 p L < L.length) := by
 rw [ixI_eq, anyB_eq]
 by_cases h : fst0 p L < L.length
 ·refine .inr ⟨if_pos h, ?_, h⟩
  rw [List.any_eq_true]
  exact ⟨L[fst0 p L], List.getElem_mem h, List.findIdx_getElem (w := h)⟩
 ·refine .inl ⟨if_neg h, ?_, Nat.le_antisymm (fst0_le p L) (Nat.not_lt.1 h)⟩
  rw [List.any_eq_false]
  intro x hx
  exact fun q => h (List.findIdx_lt_length.2 ⟨x, hx, q⟩)
end
abbrev szP (x : ByteArray) : Prop := x.size ≤ 1000000
abbrev u6P (n : Int) : Prop := 0 ≤ n ∧ n < 18446744073709551616
def wfO (r : OpQ) : Prop := szP r.2.1 ∧ szP r.2.2.1 ∧ szP r.2.2.2.1 ∧ u6P r.2.2.2.2.1
def wfC (r : CmQ) : Prop := szP r.1 ∧ u6P r.2.2.2.1 ∧ szP r.2.2.2.2
def wfK (r : KvQ) : Prop := szP r.1 ∧ szP r.2.1 ∧ u6P r.2.2.1 ∧ u6P r.2.2.2.1 ∧ u6P r.2.2.2.2
open Classical in
noncomputable def opW : List OpQ → Bool := hide fun L => decide (L.length ≤ 1000000 ∧ ∀ i, i < L.length → wfO (Sym.rowAt opT L i))
open Classical in
noncomputable def cmW : List CmQ → Bool := hide fun L => decide (L.length ≤ 1000000 ∧ ∀ i, i < L.length → wfC (Sym.rowAt cmT L i))
open Classical in
noncomputable def kvW : List KvQ → Bool := hide fun L => decide (L.length ≤ 1000000 ∧ ∀ i, i < L.length → wfK (Sym.rowAt kvT L i))
open Classical in
open Classical in
theorem opW_iff (L : List OpQ) : opW L = true ↔ (L.length ≤ 1000000 ∧ ∀ i, i < L.length → wfO (Sym.rowAt opT L i)) := by unfold opW; rw [hide_eq]; exact ⟨fun h => of_decide_eq_true h, fun h => decide_eq_true h⟩
open Classical in
theorem cmW_iff (L : List CmQ) : cmW L = true ↔ (L.length ≤ 1000000 ∧ ∀ i, i < L.length → wfC (Sym.rowAt cmT L i)) := by unfold cmW; rw [hide_eq]; exact ⟨fun h => of_decide_eq_true h, fun h => decide_eq_true h⟩
open Classical in
theorem kvW_iff (L : List KvQ) : kvW L = true ↔ (L.length ≤ 1000000 ∧ ∀ i, i < L.length → wfK (Sym.rowAt kvT L i)) := by unfold kvW; rw [hide_eq]; exact ⟨fun h => of_decide_eq_true h, fun h => decide_eq_true h⟩
open Classical in
noncomputable def badO : OpQ → Bool := hide fun r => !mayO r
noncomputable def badC : CmQ → Bool := hide fun r => !mayC r
theorem badO_eq (r : OpQ) : badO r = !mayO r := by unfold badO; rw [hide_eq]
theorem badC_eq (r : CmQ) : badC r = !mayC r := by unfold badC; rw [hide_eq]
end Go.Proofs.Ytaloolcabmfjbaa
end
