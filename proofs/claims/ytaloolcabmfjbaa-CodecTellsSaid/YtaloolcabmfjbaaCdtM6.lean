/-
  Texts of this claim, one behind the other: CdPut CdPutB SymHp SymHq. Each says its own conditions.
-/
import Derived.Test.YtaloolcabmfjbaaProg
import Derived.Test.YtaloolcabmfjbaaCdtM5
import Derived.KernelRfl

set_option linter.unusedVariables false
set_option linter.unusedSimpArgs false
set_option linter.unusedSectionVars false
section
namespace Go.Proofs.Ytaloolcabmfjbaa
open Go.Sym
set_option linter.unusedVariables false
set_option linter.unusedSimpArgs false
set_option maxRecDepth 100000
set_option maxHeartbeats 4000000
section
variable (s : ByteArray) (n : Int)
abbrev oneU (n : Int) : List (rowDen [.int .u64]) := [n]
noncomputable def ptC (j : Nat) : CD := ⟨47, [(0, .str s), (7, .rptr 0 0 0 1), (6, .int .u64 (qN n j)), (8, .int .i64 (9 - (j : Int))), (9, .lst [.int .u64] (oneU n) false), (10, .int .i64 1), (11, .int .i64 0)], [], [(0, .rows [.int .u8] (arN n j) 0 false)], 1⟩
noncomputable def rpC (j : Nat) : CD := ⟨35, [(0, .str s), (1, .int .u64 (qN n j)), (5, .str (dgN n j))], [], [], 0⟩
theorem put_at (h0 : 0 ≤ n) (hn : n < 18446744073709551616) (hs : s.size ≤ 1000000000000000000) : PureAt Try.prog 97 [.str s, .lst [.int .u64] (oneU n) false] (.str (s ++ numT n)) := by
 have h8 := szN_le hn
 have e0 : @Eq Int (Sym.rowAt [.int .u64] (oneU n) (0 + Int.toNat 0)) n := rfl
 have e0' : @Eq Int (Sym.rowAt [.int .u64] (oneU n) (Int.toNat 0)) n := rfl
 rcases (by omega : n < 248 ∨ 248 ≤ n) with hlt | hge
 ·have hz := one_lo h0 hlt
  refine pure_of_W0 (tab := noTab) (fuel := 4) (d := 4) noTab_ok ?_
  repeat' ((conv => whnf); first | (with_reducible first | (refine W1.o ?_; constructor) | rfl | exact castL_self _ _) | ((with_reducible refine V.same_t ?_); exact rfl) | ((with_reducible refine andB_room ?_ ?_ ?_); (· kernel_rfl); (· (first | omega | (simp only [lens] <;> omega)))) | ((with_reducible refine W2.o ?_; constructor); · (first | (with_reducible assumption) | (first | omega | (simp only [lens] <;> omega)))) | ((with_reducible refine W3.o ?_; constructor); · (first | (with_reducible assumption) | (first | omega | (simp only [lens] <;> omega)))) | ((with_reducible refine W4.o ?_; constructor); · (first | (with_reducible first | assumption | exact decide_eq_true rfl | exact sEq_self _) | ((with_reducible refine eqOK_i ?_); kernel_rfl))) | ((with_reducible refine iteB_f ?_ ?_); · (first | (with_reducible first | assumption | exact decide_eq_true rfl | exact sEq_self _) | ((with_reducible refine eqOK_i ?_); kernel_rfl))) | (with_reducible refine W5.o ?_; constructor) | ((with_reducible refine W6.o ?_; constructor) <;> intro hB))
  all_goals ((conv => whnf); (try dsimp only); (try simp only [Nat.succ_eq_add_one, Nat.le_eq, castL_self]); (try omega))
  all_goals (try (first | omega | (simp only [lens] <;> omega)))
  all_goals first
   | exact congrArg (fun x => V.str (s ++ x)) hz
   | trace_state
 ·refine pure_of_loop noTab_ok (fuel := 4) (d := 4) 8 (X := { j : Nat // j ≤ szN n }) (fun x => ptC s n x.1) (fun x => szN n - x.1)
   (fun _ => .leaf (.exit 2) (ptC s n (szN n))) ⟨0, Nat.zero_le _⟩ [(0, 0)] rfl ?_ ?_
  ·rintro ⟨j, hj⟩
   dsimp only
   have q1 := qN_nn n j
   have q2 := qN_lt j hn
   have q3 := qN_succ n j
   have q4 := arN_succ n j
   have q5 := arN_len n j
   rcases Nat.lt_or_ge j (szN n) with hlt | hge2
   ·have q6 := qN_pos hlt
    have ei : Int.toNat (9 - (j : Int) - 1) = 8 - j := by omega
    repeat' ((conv => whnf); first | (with_reducible first | (refine W1.o ?_; constructor) | rfl | exact castL_self _ _) | ((with_reducible refine V.same_t ?_); exact rfl) | ((with_reducible refine andB_room ?_ ?_ ?_); (· kernel_rfl); (· (first | omega | (simp only [lens] <;> omega)))) | ((with_reducible refine W2.o ?_; constructor); · (first | (with_reducible assumption) | (first | omega | (simp only [lens] <;> omega)))) | ((with_reducible refine W3.o ?_; constructor); · (first | (with_reducible assumption) | (first | omega | (simp only [lens] <;> omega)))) | ((with_reducible refine W4.o ?_; constructor); · (first | (with_reducible first | assumption | exact decide_eq_true rfl | exact sEq_self _) | ((with_reducible refine eqOK_i ?_); kernel_rfl))) | ((with_reducible refine iteB_f ?_ ?_); · (first | (with_reducible first | assumption | exact decide_eq_true rfl | exact sEq_self _) | ((with_reducible refine eqOK_i ?_); kernel_rfl))) | (refine ⟨⟨j + 1, hlt⟩, ?_, rfl, ?_⟩) | (with_reducible refine CD.wk_au ?_) | (with_reducible refine W5.o ?_; constructor) | ((with_reducible refine W6.o ?_; constructor) <;> intro hB))
    all_goals ((conv => whnf); (try dsimp only); (try simp only [Nat.succ_eq_add_one, Nat.le_eq, castL_self]); (try omega))
    all_goals (try (first | omega | (simp only [lens] <;> omega)))
    all_goals first
     | exact q3
     | (rw [ei]; exact q4.symm)
     | trace_state
   ·have he : j = szN n := Nat.le_antisymm hj hge2
    subst he
    have q6 := qN_end n
    repeat' ((conv => whnf); first | (with_reducible first | (refine W1.o ?_; constructor) | rfl | exact castL_self _ _) | ((with_reducible refine V.same_t ?_); exact rfl) | ((with_reducible refine andB_room ?_ ?_ ?_); (· kernel_rfl); (· (first | omega | (simp only [lens] <;> omega)))) | ((with_reducible refine W2.o ?_; constructor); · (first | (with_reducible assumption) | (first | omega | (simp only [lens] <;> omega)))) | ((with_reducible refine W3.o ?_; constructor); · (first | (with_reducible assumption) | (first | omega | (simp only [lens] <;> omega)))) | ((with_reducible refine W4.o ?_; constructor); · (first | (with_reducible first | assumption | exact decide_eq_true rfl | exact sEq_self _) | ((with_reducible refine eqOK_i ?_); kernel_rfl))) | ((with_reducible refine iteB_f ?_ ?_); · (first | (with_reducible first | assumption | exact decide_eq_true rfl | exact sEq_self _) | ((with_reducible refine eqOK_i ?_); kernel_rfl))) | (with_reducible refine CD.wk_au ?_) | (with_reducible refine W5.o ?_; constructor) | ((with_reducible refine W6.o ?_; constructor) <;> intro hB))
    all_goals ((conv => whnf); (try dsimp only); (try simp only [Nat.succ_eq_add_one, Nat.le_eq, castL_self]); (try omega))
    all_goals (try (first | omega | (simp only [lens] <;> omega)))
    all_goals trace_state
  ·have q5 := arN_len n (szN n)
   have z1 : Int.toNat (9 - (szN n : Int) - 1) = 8 - szN n := by omega
   have z2 : (255 - (9 - (szN n : Int) - 1)) % 256 = 247 + (szN n : Int) := by omega
   have z3 := arN_end hge hn
   have z4 : (((arN n (szN n)).set (8 - szN n) (247 + (szN n : Int))).drop (8 - szN n)).length = 9 - (8 - szN n) := by rw [List.length_drop, List.length_set, q5]
   repeat' ((conv => whnf); first | (with_reducible first | (refine W1.o ?_; constructor) | rfl | exact castL_self _ _) | ((with_reducible refine V.same_t ?_); exact rfl) | ((with_reducible refine andB_room ?_ ?_ ?_); (· kernel_rfl); (· (first | omega | (simp only [lens] <;> omega)))) | ((with_reducible refine W2.o ?_; constructor); · (first | (with_reducible assumption) | (first | omega | (simp only [lens] <;> omega)))) | ((with_reducible refine W3.o ?_; constructor); · (first | (with_reducible assumption) | (first | omega | (simp only [lens] <;> omega)))) | ((with_reducible refine W4.o ?_; constructor); · (first | (with_reducible first | assumption | exact decide_eq_true rfl | exact sEq_self _) | ((with_reducible refine eqOK_i ?_); kernel_rfl))) | ((with_reducible refine iteB_f ?_ ?_); · (first | (with_reducible first | assumption | exact decide_eq_true rfl | exact sEq_self _) | ((with_reducible refine eqOK_i ?_); kernel_rfl))) | (with_reducible refine CD.wk_au ?_) | (with_reducible refine W5.o ?_; constructor) | ((with_reducible refine W6.o ?_; constructor) <;> intro hB))
   all_goals ((conv => whnf); (try dsimp only); (try simp only [Nat.succ_eq_add_one, Nat.le_eq, castL_self]); (try omega))
   all_goals (try (first | omega | (simp only [lens] <;> omega)))
   all_goals first
    | exact (qN_0 h0).symm
    | exact (arN_0 n).symm
    | (simp only [List.length_set, q5] <;> omega)
    | (rw [z1, z2, List.take_of_length_le (Nat.le_of_eq z4), z3]; done)
    | trace_state
theorem rput_at (h0 : 0 ≤ n) (hn : n < 18446744073709551616) (hs : s.size ≤ 1000000000000000000) : PureAt Try.prog 77 [.str s, .int .u64 n] (.str (s ++ numT n)) := by
 have h8 := szN_le hn
 rcases (by omega : n < 248 ∨ 248 ≤ n) with hlt | hge
 ·have hz := one_lo h0 hlt
  refine pure_of_W0 (tab := noTab) (fuel := 4) (d := 4) noTab_ok ?_
  repeat' ((conv => whnf); first | (with_reducible first | (refine W1.o ?_; constructor) | rfl | exact castL_self _ _) | ((with_reducible refine V.same_t ?_); exact rfl) | ((with_reducible refine andB_room ?_ ?_ ?_); (· kernel_rfl); (· (first | omega | (simp only [lens] <;> omega)))) | ((with_reducible refine W2.o ?_; constructor); · (first | (with_reducible assumption) | (first | omega | (simp only [lens] <;> omega)))) | ((with_reducible refine W3.o ?_; constructor); · (first | (with_reducible assumption) | (first | omega | (simp only [lens] <;> omega)))) | ((with_reducible refine W4.o ?_; constructor); · (first | (with_reducible first | assumption | exact decide_eq_true rfl | exact sEq_self _) | ((with_reducible refine eqOK_i ?_); kernel_rfl))) | ((with_reducible refine iteB_f ?_ ?_); · (first | (with_reducible first | assumption | exact decide_eq_true rfl | exact sEq_self _) | ((with_reducible refine eqOK_i ?_); kernel_rfl))) | (with_reducible refine W5.o ?_; constructor) | ((with_reducible refine W6.o ?_; constructor) <;> intro hB))
  all_goals ((conv => whnf); (try dsimp only); (try simp only [Nat.succ_eq_add_one, Nat.le_eq, castL_self]); (try omega))
  all_goals (try (first | omega | (simp only [lens] <;> omega)))
  all_goals first
   | exact congrArg (fun x => V.str (s ++ x)) hz
   | trace_state
 ·refine pure_of_loop noTab_ok (fuel := 4) (d := 4) 4 (X := { j : Nat // j ≤ szN n }) (fun x => rpC s n x.1) (fun x => szN n - x.1)
   (fun _ => .leaf (.exit 0) (rpC s n (szN n))) ⟨0, Nat.zero_le _⟩ [] rfl ?_ ?_
  ·rintro ⟨j, hj⟩
   dsimp only
   have q1 := qN_nn n j
   have q2 := qN_lt j hn
   have q3 := qN_succ n j
   have q4 := dgN_succ n j
   have q5 := dgN_size n j
   rcases Nat.lt_or_ge j (szN n) with hlt | hge2
   ·have q6 := qN_pos hlt
    repeat' ((conv => whnf); first | (with_reducible first | (refine W1.o ?_; constructor) | rfl | exact castL_self _ _) | ((with_reducible refine V.same_t ?_); exact rfl) | ((with_reducible refine andB_room ?_ ?_ ?_); (· kernel_rfl); (· (first | omega | (simp only [lens] <;> omega)))) | ((with_reducible refine W2.o ?_; constructor); · (first | (with_reducible assumption) | (first | omega | (simp only [lens] <;> omega)))) | ((with_reducible refine W3.o ?_; constructor); · (first | (with_reducible assumption) | (first | omega | (simp only [lens] <;> omega)))) | ((with_reducible refine W4.o ?_; constructor); · (first | (with_reducible first | assumption | exact decide_eq_true rfl | exact sEq_self _) | ((with_reducible refine eqOK_i ?_); kernel_rfl))) | ((with_reducible refine iteB_f ?_ ?_); · (first | (with_reducible first | assumption | exact decide_eq_true rfl | exact sEq_self _) | ((with_reducible refine eqOK_i ?_); kernel_rfl))) | (refine ⟨⟨j + 1, hlt⟩, ?_, rfl, ?_⟩) | (with_reducible refine CD.wk_au ?_) | (with_reducible refine W5.o ?_; constructor) | ((with_reducible refine W6.o ?_; constructor) <;> intro hB))
    all_goals ((conv => whnf); (try dsimp only); (try simp only [Nat.succ_eq_add_one, Nat.le_eq, castL_self]); (try omega))
    all_goals (try (first | omega | (simp only [lens] <;> omega)))
    all_goals first
     | exact q3
     | exact q4
     | trace_state
   ·have he : j = szN n := Nat.le_antisymm hj hge2
    subst he
    have q6 := qN_end n
    repeat' ((conv => whnf); first | (with_reducible first | (refine W1.o ?_; constructor) | rfl | exact castL_self _ _) | ((with_reducible refine V.same_t ?_); exact rfl) | ((with_reducible refine andB_room ?_ ?_ ?_); (· kernel_rfl); (· (first | omega | (simp only [lens] <;> omega)))) | ((with_reducible refine W2.o ?_; constructor); · (first | (with_reducible assumption) | (first | omega | (simp only [lens] <;> omega)))) | ((with_reducible refine W3.o ?_; constructor); · (first | (with_reducible assumption) | (first | omega | (simp only [lens] <;> omega)))) | ((with_reducible refine W4.o ?_; constructor); · (first | (with_reducible first | assumption | exact decide_eq_true rfl | exact sEq_self _) | ((with_reducible refine eqOK_i ?_); kernel_rfl))) | ((with_reducible refine iteB_f ?_ ?_); · (first | (with_reducible first | assumption | exact decide_eq_true rfl | exact sEq_self _) | ((with_reducible refine eqOK_i ?_); kernel_rfl))) | (with_reducible refine CD.wk_au ?_) | (with_reducible refine W5.o ?_; constructor) | ((with_reducible refine W6.o ?_; constructor) <;> intro hB))
    all_goals ((conv => whnf); (try dsimp only); (try simp only [Nat.succ_eq_add_one, Nat.le_eq, castL_self]); (try omega))
    all_goals (try (first | omega | (simp only [lens] <;> omega)))
    all_goals trace_state
  ·have q5 := dgN_size n (szN n)
   have z3 := dgN_end hge hn s
   repeat' ((conv => whnf); first | (with_reducible first | (refine W1.o ?_; constructor) | rfl | exact castL_self _ _) | ((with_reducible refine V.same_t ?_); exact rfl) | ((with_reducible refine andB_room ?_ ?_ ?_); (· kernel_rfl); (· (first | omega | (simp only [lens] <;> omega)))) | ((with_reducible refine W2.o ?_; constructor); · (first | (with_reducible assumption) | (first | omega | (simp only [lens] <;> omega)))) | ((with_reducible refine W3.o ?_; constructor); · (first | (with_reducible assumption) | (first | omega | (simp only [lens] <;> omega)))) | ((with_reducible refine W4.o ?_; constructor); · (first | (with_reducible first | assumption | exact decide_eq_true rfl | exact sEq_self _) | ((with_reducible refine eqOK_i ?_); kernel_rfl))) | ((with_reducible refine iteB_f ?_ ?_); · (first | (with_reducible first | assumption | exact decide_eq_true rfl | exact sEq_self _) | ((with_reducible refine eqOK_i ?_); kernel_rfl))) | (with_reducible refine CD.wk_au ?_) | (with_reducible refine W5.o ?_; constructor) | ((with_reducible refine W6.o ?_; constructor) <;> intro hB))
   all_goals ((conv => whnf); (try dsimp only); (try simp only [Nat.succ_eq_add_one, Nat.le_eq, castL_self]); (try omega))
   all_goals (try (first | omega | (simp only [lens] <;> omega)))
   all_goals first
    | exact (qN_0 h0).symm
    | exact (dgN_0 n).symm
    | (simp only [q5]; exact congrArg V.str z3)
    | trace_state
end
end Go.Proofs.Ytaloolcabmfjbaa
end

section
namespace Go.Proofs.Ytaloolcabmfjbaa
open Go.Sym
set_option linter.unusedVariables false
set_option linter.unusedSimpArgs false
set_option maxRecDepth 100000
set_option maxHeartbeats 4000000
noncomputable def numC (s : ByteArray) (n : Int) : List Bool := [leI 0 n, ltI n 18446744073709551616, decide (s.size ≤ 1000000000000000000)]
theorem numC_ok {s : ByteArray} {n : Int} (h : allB (numC s n)) : 0 ≤ n ∧ n < 18446744073709551616 ∧ s.size ≤ 1000000000000000000 := by
 obtain ⟨h1, h2, h3, _⟩ := h
 rw [leI_eq] at h1
 rw [ltI_eq] at h2
 exact ⟨of_decide_eq_true h1, of_decide_eq_true h2, of_decide_eq_true h3⟩
noncomputable def putF (args : List V) : Option (List Bool × V) := match args with
 | [.str s, l] => (match ofLst [.int .u64] l with
   | some [n] => some (numC s n, .str (s ++ numT n))
   | _ => none)
 | _ => none
theorem putF_ok (args : List V) (c : List Bool) (v : V) (h : putF args = some (c, v)) (hc : allB c) : PureAt Try.prog 97 args v := by
 unfold putF at h
 split at h
 ·split at h
  ·rename_i s l q n hl
   cases h
   obtain ⟨h1, h2, h3⟩ := numC_ok hc
   exact PureAt.lst (pre := [.str s]) (rest := []) (put_at _ n h1 h2 h3) hl
  ·cases h
 ·cases h
noncomputable def pnF (args : List V) : Option (List Bool × V) := match args with
 | [.str s, .int .u64 n] => some (numC s n, .str (s ++ numT n))
 | _ => none
theorem rpnF_ok (args : List V) (c : List Bool) (v : V) (h : pnF args = some (c, v)) (hc : allB c) : PureAt Try.prog 77 args v := by
 unfold pnF at h
 split at h
 ·cases h
  obtain ⟨h1, h2, h3⟩ := numC_ok hc
  exact rput_at _ _ h1 h2 h3
 ·cases h
noncomputable def tabP1 : Tab := oneTab 97 putF (oneTab 77 pnF noTab)
theorem tabP1_ok : TabOK Try.prog tabP1 := oneTab_ok putF_ok (oneTab_ok rpnF_ok noTab_ok)
section
variable (s t : ByteArray) (n : Int)
theorem pn_at (h0 : 0 ≤ n) (hn : n < 18446744073709551616) (hs : s.size ≤ 1000000000000000000) : PureAt Try.prog 75 [.str s, .int .u64 n] (.str (s ++ numT n)) := by
 refine pure_of_W0 (tab := tabP1) (fuel := 4) (d := 4) tabP1_ok ?_
 repeat' ((conv => whnf); first | (with_reducible first | (refine W1.o ?_; constructor) | rfl | exact castL_self _ _) | ((with_reducible refine V.same_t ?_); exact rfl) | ((with_reducible refine andB_room ?_ ?_ ?_); (· kernel_rfl); (· (first | omega | (simp only [lens] <;> omega)))) | ((with_reducible refine W2.o ?_; constructor); · (first | (with_reducible assumption) | (first | omega | (simp only [lens] <;> omega)))) | ((with_reducible refine W3.o ?_; constructor); · (first | (with_reducible assumption) | (first | omega | (simp only [lens] <;> omega)))) | ((with_reducible refine W4.o ?_; constructor); · (first | (with_reducible first | assumption | exact decide_eq_true rfl | exact sEq_self _) | ((with_reducible refine eqOK_i ?_); kernel_rfl))) | ((with_reducible refine iteB_f ?_ ?_); · (first | (with_reducible first | assumption | exact decide_eq_true rfl | exact sEq_self _) | ((with_reducible refine eqOK_i ?_); kernel_rfl))) | (with_reducible refine W5.o ?_; constructor) | ((with_reducible refine W6.o ?_; constructor) <;> intro hB))
 all_goals ((conv => whnf); (try dsimp only); (try simp only [Nat.succ_eq_add_one, Nat.le_eq, castL_self]); (try omega))
 all_goals (try (first | omega | (simp only [lens] <;> omega)))
 all_goals first
  | exact rfl
  | trace_state
theorem pt_at (hs : s.size ≤ 1000000000000000000) (ht : t.size ≤ 1000000000000000000) : PureAt Try.prog 98 [.str s, .str t] (.str (s ++ txtT t)) := by
 have e : s ++ txtT t = s ++ numT (t.size : Int) ++ t := by rw [txtT_eq, ByteArray.append_assoc]
 have h9 := numT_le (t.size : Int)
 have ez : (t.size : Int) % 18446744073709551616 = (t.size : Int) := by omega
 refine pure_of_W0 (tab := tabP1) (fuel := 4) (d := 4) tabP1_ok ?_
 repeat' ((conv => whnf); first | (with_reducible first | (refine W1.o ?_; constructor) | rfl | exact castL_self _ _) | ((with_reducible refine V.same_t ?_); exact rfl) | ((with_reducible refine andB_room ?_ ?_ ?_); (· kernel_rfl); (· (first | omega | (simp only [lens] <;> omega)))) | ((with_reducible refine W2.o ?_; constructor); · (first | (with_reducible assumption) | (first | omega | (simp only [lens] <;> omega)))) | ((with_reducible refine W3.o ?_; constructor); · (first | (with_reducible assumption) | (first | omega | (simp only [lens] <;> omega)))) | ((with_reducible refine W4.o ?_; constructor); · (first | (with_reducible first | assumption | exact decide_eq_true rfl | exact sEq_self _) | ((with_reducible refine eqOK_i ?_); kernel_rfl))) | ((with_reducible refine iteB_f ?_ ?_); · (first | (with_reducible first | assumption | exact decide_eq_true rfl | exact sEq_self _) | ((with_reducible refine eqOK_i ?_); kernel_rfl))) | (with_reducible refine W5.o ?_; constructor) | ((with_reducible refine W6.o ?_; constructor) <;> intro hB))
 all_goals ((conv => whnf); (try dsimp only); (try simp only [Nat.succ_eq_add_one, Nat.le_eq, castL_self]); (try omega))
 all_goals (try (first | omega | (simp only [lens] <;> omega)))
 all_goals first
  | (simp only [ez]; exact congrArg V.str e.symm)
  | (simp only [ez, lens] <;> omega)
  | trace_state
theorem rpt_at (hs : s.size ≤ 1000000000000000000) (ht : t.size ≤ 1000000000000000000) : PureAt Try.prog 78 [.str s, .str t] (.str (s ++ txtT t)) := by
 have e : s ++ txtT t = s ++ numT (t.size : Int) ++ t := by rw [txtT_eq, ByteArray.append_assoc]
 have h9 := numT_le (t.size : Int)
 have ez : (t.size : Int) % 18446744073709551616 = (t.size : Int) := by omega
 refine pure_of_W0 (tab := tabP1) (fuel := 4) (d := 4) tabP1_ok ?_
 repeat' ((conv => whnf); first | (with_reducible first | (refine W1.o ?_; constructor) | rfl | exact castL_self _ _) | ((with_reducible refine V.same_t ?_); exact rfl) | ((with_reducible refine andB_room ?_ ?_ ?_); (· kernel_rfl); (· (first | omega | (simp only [lens] <;> omega)))) | ((with_reducible refine W2.o ?_; constructor); · (first | (with_reducible assumption) | (first | omega | (simp only [lens] <;> omega)))) | ((with_reducible refine W3.o ?_; constructor); · (first | (with_reducible assumption) | (first | omega | (simp only [lens] <;> omega)))) | ((with_reducible refine W4.o ?_; constructor); · (first | (with_reducible first | assumption | exact decide_eq_true rfl | exact sEq_self _) | ((with_reducible refine eqOK_i ?_); kernel_rfl))) | ((with_reducible refine iteB_f ?_ ?_); · (first | (with_reducible first | assumption | exact decide_eq_true rfl | exact sEq_self _) | ((with_reducible refine eqOK_i ?_); kernel_rfl))) | (with_reducible refine W5.o ?_; constructor) | ((with_reducible refine W6.o ?_; constructor) <;> intro hB))
 all_goals ((conv => whnf); (try dsimp only); (try simp only [Nat.succ_eq_add_one, Nat.le_eq, castL_self]); (try omega))
 all_goals (try (first | omega | (simp only [lens] <;> omega)))
 all_goals first
  | (simp only [ez]; exact congrArg V.str e.symm)
  | (simp only [ez, lens] <;> omega)
  | trace_state
noncomputable def ptF (args : List V) : Option (List Bool × V) := match args with
 | [.str s, .str t] => some ([decide (s.size ≤ 1000000000000000000), decide (t.size ≤ 1000000000000000000)], .str (s ++ txtT t))
 | _ => none
theorem pnF_ok (args : List V) (c : List Bool) (v : V) (h : pnF args = some (c, v)) (hc : allB c) : PureAt Try.prog 75 args v := by
 unfold pnF at h
 split at h
 ·cases h
  obtain ⟨h1, h2, h3⟩ := numC_ok hc
  exact pn_at _ _ h1 h2 h3
 ·cases h
theorem ptF_ok (args : List V) (c : List Bool) (v : V) (h : ptF args = some (c, v)) (hc : allB c) : PureAt Try.prog 98 args v := by
 unfold ptF at h
 split at h
 ·cases h
  exact pt_at _ _ (of_decide_eq_true hc.1) (of_decide_eq_true hc.2.1)
 ·cases h
theorem rptF_ok (args : List V) (c : List Bool) (v : V) (h : ptF args = some (c, v)) (hc : allB c) : PureAt Try.prog 78 args v := by
 unfold ptF at h
 split at h
 ·cases h
  exact rpt_at _ _ (of_decide_eq_true hc.1) (of_decide_eq_true hc.2.1)
 ·cases h
noncomputable def tabP : Tab := oneTab 75 pnF (oneTab 98 ptF (oneTab 77 pnF (oneTab 78 ptF noTab)))
theorem tabP_ok : TabOK Try.prog tabP := oneTab_ok pnF_ok (oneTab_ok ptF_ok (oneTab_ok rpnF_ok (oneTab_ok rptF_ok noTab_ok)))
end
end Go.Proofs.Ytaloolcabmfjbaa
end

section
namespace Go.Sym
open Go.RowKit (Below)
set_option linter.unusedSimpArgs false
set_option linter.unusedVariables false

noncomputable section
mutual
def renV (f : Nat → Option Nat) : V → Option V
 | .ptr b o => (match f b with
   | some b' => some (.ptr b' o)
   | none => none)
 | .rptr b i j es => (match f b with
   | some b' => some (.rptr b' i j es)
   | none => none)
 | .sl b o len cap x es => (match f b with
   | some b' => some (.sl b' o len cap x es)
   | none => none)
 | .rs b lo len cap x es => (match f b with
   | some b' => some (.rs b' lo len cap x es)
   | none => none)
 | .map b => (match f b with
   | some b' => some (.map b')
   | none => none)
 | .yld b => (match f b with
   | some b' => some (.yld b')
   | none => none)
 | .fn g a c => (match renL f a, renL f c with
   | some a', some c' => some (.fn g a' c')
   | _, _ => none)
 | .iface t v => (match renV f v with
   | some v' => some (.iface t v')
   | none => none)
 | .agg l => (match renL f l with
   | some l' => some (.agg l')
   | none => none)
 | .tup l => (match renL f l with
   | some l' => some (.tup l')
   | none => none)
 | .undef => some .undef
 | .any => some .any
 | .bool b => some (.bool b)
 | .int k n => some (.int k n)
 | .str s => some (.str s)
 | .nilp => some .nilp
 | .nils => some .nils
 | .nilm => some .nilm
 | .nilf => some .nilf
 | .nili => some .nili
 | .lptr e L i j => some (.lptr e L i j)
 | .lst e L cl => some (.lst e L cl)
 | .arr e L => some (.arr e L)
def renL (f : Nat → Option Nat) : List V → Option (List V)
 | [] => some []
 | v :: l => (match renV f v, renL f l with
   | some v', some l' => some (v' :: l')
   | _, _ => none)
end
end
def RenOK (f : Nat → Option Nat) (ρ ρ' : Env) : Prop := (∀ b b', f b = some b' → ∀ x, ρ b = some x → ρ' b' = some x) ∧ subφ ρ.φ ρ'.φ
section
variable {f : Nat → Option Nat} {ρ ρ' : Env}
mutual
theorem renV_rel (h : RenOK f ρ ρ') : ∀ (v v' : V) (X : Value), renV f v = some v' → VRel ρ v X → VRel ρ' v' X
 | .ptr b o, v', X, hr, r => by
  rw [renV.eq_def] at hr; simp only at hr
  split at hr
  ·rename_i b' hb
   cases hr
   simp only [VRel] at r ⊢
   obtain ⟨B, O, S, h1, h2⟩ := r
   exact ⟨B, O, S, h.1 _ _ hb _ h1, h2⟩
  ·cases hr
 | .rptr b i j es, v', X, hr, r => by
  rw [renV.eq_def] at hr; simp only at hr
  split at hr
  ·rename_i b' hb
   cases hr
   simp only [VRel] at r ⊢
   obtain ⟨B, O, S, h1, h2⟩ := r
   exact ⟨B, O, S, h.1 _ _ hb _ h1, h2⟩
  ·cases hr
 | .sl b o len cap x es, v', X, hr, r => by
  rw [renV.eq_def] at hr; simp only at hr
  split at hr
  ·rename_i b' hb
   cases hr
   simp only [VRel] at r ⊢
   obtain ⟨B, O, S, c, h1, h2⟩ := r
   exact ⟨B, O, S, c, h.1 _ _ hb _ h1, h2⟩
  ·cases hr
 | .rs b lo len cap x es, v', X, hr, r => by
  rw [renV.eq_def] at hr; simp only at hr
  split at hr
  ·rename_i b' hb
   cases hr
   simp only [VRel] at r ⊢
   obtain ⟨a, c, h1, h2, h3, h4, h6, h5⟩ := r
   exact ⟨a, c, h1, h2, h3, h4, h6, fun hp => let ⟨B, O, S, g1, g2⟩ := h5 hp; ⟨B, O, S, h.1 _ _ hb _ g1, g2⟩⟩
  ·cases hr
 | .map b, v', X, hr, r => by
  rw [renV.eq_def] at hr; simp only at hr
  split at hr
  ·rename_i b' hb
   cases hr
   simp only [VRel] at r ⊢
   obtain ⟨B, O, S, h1, h2⟩ := r
   exact ⟨B, O, S, h.1 _ _ hb _ h1, h2⟩
  ·cases hr
 | .yld b, v', X, hr, r => by
  rw [renV.eq_def] at hr; simp only at hr
  split at hr
  ·rename_i b' hb
   cases hr
   simp only [VRel] at r ⊢
   obtain ⟨B, O, S, h1, h2⟩ := r
   exact ⟨B, O, S, h.1 _ _ hb _ h1, h2⟩
  ·cases hr
 | .fn g a c, v', X, hr, r => by
  rw [renV.eq_def] at hr; simp only at hr
  split at hr
  ·rename_i a' c' ha hc
   cases hr
   simp only [VRel] at r ⊢
   obtain ⟨A, C, h1, h2, h3⟩ := r
   exact ⟨A, C, h1, renL_rel h a _ _ ha h2, renL_rel h c _ _ hc h3⟩
  ·cases hr
 | .iface t v, v', X, hr, r => by
  rw [renV.eq_def] at hr; simp only at hr
  split at hr
  ·rename_i u hu
   cases hr
   simp only [VRel] at r ⊢
   obtain ⟨Y, h1, h2⟩ := r
   exact ⟨Y, h1, renV_rel h v _ _ hu h2⟩
  ·cases hr
 | .agg l, v', X, hr, r => by
  rw [renV.eq_def] at hr; simp only at hr
  split at hr
  ·rename_i u hu
   cases hr
   simp only [VRel] at r ⊢
   obtain ⟨Y, h1, h2⟩ := r
   exact ⟨Y, h1, renL_rel h l _ _ hu h2⟩
  ·cases hr
 | .tup l, v', X, hr, r => by
  rw [renV.eq_def] at hr; simp only at hr
  split at hr
  ·rename_i u hu
   cases hr
   simp only [VRel] at r ⊢
   obtain ⟨Y, h1, h2⟩ := r
   exact ⟨Y, h1, renL_rel h l _ _ hu h2⟩
  ·cases hr
 | .undef, v', X, hr, r => by rw [renV.eq_def] at hr; cases hr; simpa only [VRel] using r
 | .any, v', X, hr, r => by rw [renV.eq_def] at hr; cases hr; simp only [VRel]
 | .bool b, v', X, hr, r => by rw [renV.eq_def] at hr; cases hr; simpa only [VRel] using r
 | .int k n, v', X, hr, r => by rw [renV.eq_def] at hr; cases hr; simpa only [VRel] using r
 | .str s, v', X, hr, r => by rw [renV.eq_def] at hr; cases hr; simpa only [VRel] using r
 | .nilp, v', X, hr, r => by rw [renV.eq_def] at hr; cases hr; simpa only [VRel] using r
 | .nils, v', X, hr, r => by rw [renV.eq_def] at hr; cases hr; simpa only [VRel] using r
 | .nilm, v', X, hr, r => by rw [renV.eq_def] at hr; cases hr; simpa only [VRel] using r
 | .nilf, v', X, hr, r => by rw [renV.eq_def] at hr; cases hr; simpa only [VRel] using r
 | .nili, v', X, hr, r => by rw [renV.eq_def] at hr; cases hr; simpa only [VRel] using r
 | .lptr e L i j, v', X, hr, r => by
  rw [renV.eq_def] at hr; cases hr
  exact VRel.bare h.2 (.lptr e L i j) X rfl r
 | .lst e L cl, v', X, hr, r => by
  rw [renV.eq_def] at hr; cases hr
  exact VRel.bare h.2 (.lst e L cl) X rfl r
 | .arr e L, v', X, hr, r => by
  rw [renV.eq_def] at hr; cases hr
  exact VRel.bare h.2 (.arr e L) X rfl r
theorem renL_rel (h : RenOK f ρ ρ') : ∀ (l l' : List V) (X : List Value), renL f l = some l' → LRel ρ l X → LRel ρ' l' X
 | [], l', X, hr, r => by rw [renL.eq_def] at hr; cases hr; exact r
 | v :: l, l', X, hr, r => by
  rw [renL.eq_def] at hr; simp only at hr
  split at hr
  ·rename_i v1 l1 h1 h2
   cases hr
   obtain ⟨Y, Z, g1, g2, g3⟩ := r
   exact ⟨Y, Z, g1, renV_rel h v _ _ h1 g2, renL_rel h l _ _ h2 g3⟩
  ·cases hr
end
end

noncomputable section
def idxO : Nat → List EObj → List (Nat × EObj)
 | _, [] => []
 | i, o :: l => (i, o) :: idxO (i + 1) l
end
noncomputable section
section
variable (b : Nat) (e : List Ty) (L : List (rowDen e))
mutual
def fzV : V → V
 | .rs b' lo len cap x es => bif Nat.beq b' b && Nat.beq es (llen e) then .lst e (seg L lo len) false else .rs b' lo len cap x es
 | .iface t v => .iface t (fzV v)
 | .agg l => .agg (fzL l)
 | .tup l => .tup (fzL l)
 | .fn g a c => .fn g (fzL a) (fzL c)
 | .ptr b' o => .ptr b' o
 | .rptr b' i j es => .rptr b' i j es
 | .sl b' o len cap x es => .sl b' o len cap x es
 | .map b' => .map b'
 | .yld b' => .yld b'
 | .undef => .undef
 | .any => .any
 | .bool x => .bool x
 | .int k n => .int k n
 | .str s => .str s
 | .nilp => .nilp
 | .nils => .nils
 | .nilm => .nilm
 | .nilf => .nilf
 | .nili => .nili
 | .lptr e L i j => .lptr e L i j
 | .lst e L cl => .lst e L cl
 | .arr e L => .arr e L
def fzL : List V → List V
 | [] => []
 | v :: l => fzV v :: fzL l
end
mutual
def fzKV : V → List Bool
 | .rs b' lo len cap x es => bif Nat.beq b' b && Nat.beq es (llen e) then [decide (lo + len ≤ L.length)] else []
 | .iface t v => fzKV v
 | .agg l => fzKL l
 | .tup l => fzKL l
 | .fn g a c => lapp (fzKL a) (fzKL c)
 | _ => []
def fzKL : List V → List Bool
 | [] => []
 | v :: l => lapp (fzKV v) (fzKL l)
end
end
end

section
variable {own : Own} {ρ ρ' : Env} {b : Nat} {e : List Ty} {L : List (rowDen e)}
def FzOK (ρ ρ' : Env) (b : Nat) (e : List Ty) (L : List (rowDen e)) : Prop := ρ.sub ρ' ∧ ∀ x, ρ b = some x → RowsAt ρ'.φ e L (fun k => ρ'.φ x.B (x.O + k))
mutual
theorem fzV_rel (h : FzOK ρ ρ' b e L) : ∀ (v : V) (X : Value), allB (fzKV b e L v) → VRel ρ v X → VRel ρ' (fzV b e L v) X
 | .rs b' lo len cap x es, X, hk, r => by
  rw [fzV.eq_def]
  rw [fzKV.eq_def] at hk
  simp only at hk ⊢
  cases hb : (Nat.beq b' b && Nat.beq es (llen e)) with
  | false => rw [cond_false]; exact VRel.up h.1 _ _ r
  | true =>
   rw [hb, cond_true] at hk
   rw [cond_true]
   rw [Bool.and_eq_true] at hb
   have h1 := Nat.eq_of_beq_eq_true hb.1
   have h2 := Nat.eq_of_beq_eq_true hb.2
   rw [llen_eq] at h2
   subst h1; subst h2
   have hle : lo + len ≤ L.length := of_decide_eq_true hk.1
   have hl := seg_length hle
   simp only [VRel] at r ⊢
   obtain ⟨a, c', h1, h2, h3, h4, h5, h6⟩ := r
   refine ⟨a, c', by rw [hl]; exact h1, by rw [hl]; omega, fun hh => (by cases hh), h5, fun hp => ?_⟩
   rw [hl] at hp
   obtain ⟨B, O, S, g1, g2, g3⟩ := h6 (by omega)
   have hr := rows_seg hle (h.2 _ g1)
   refine ⟨B, _, g2, hr.mono (fun _ _ _ hv => hv) fun j u hu => ?_⟩
   rw [Nat.add_assoc]
   exact hu
 | .iface t v, X, hk, r => by
  rw [fzV.eq_def]
  rw [fzKV.eq_def] at hk
  simp only [VRel] at hk r ⊢
  obtain ⟨Y, h1, h2⟩ := r
  exact ⟨Y, h1, fzV_rel h v Y hk h2⟩
 | .agg l, X, hk, r => by
  rw [fzV.eq_def]
  rw [fzKV.eq_def] at hk
  simp only [VRel] at hk r ⊢
  obtain ⟨Y, h1, h2⟩ := r
  exact ⟨Y, h1, fzL_rel h l _ hk h2⟩
 | .tup l, X, hk, r => by
  rw [fzV.eq_def]
  rw [fzKV.eq_def] at hk
  simp only [VRel] at hk r ⊢
  obtain ⟨Y, h1, h2⟩ := r
  exact ⟨Y, h1, fzL_rel h l _ hk h2⟩
 | .fn g a c, X, hk, r => by
  rw [fzV.eq_def]
  rw [fzKV.eq_def] at hk
  simp only [VRel, lapp_eq, allB_append] at hk r ⊢
  obtain ⟨A, C, h1, h2, h3⟩ := r
  exact ⟨A, C, h1, fzL_rel h a _ hk.1 h2, fzL_rel h c _ hk.2 h3⟩
 | .ptr b' o, X, _, r => by rw [fzV.eq_def]; exact VRel.up h.1 _ _ r
 | .rptr b' i j es, X, _, r => by rw [fzV.eq_def]; exact VRel.up h.1 _ _ r
 | .sl b' o len cap x es, X, _, r => by rw [fzV.eq_def]; exact VRel.up h.1 _ _ r
 | .map b', X, _, r => by rw [fzV.eq_def]; exact VRel.up h.1 _ _ r
 | .yld b', X, _, r => by rw [fzV.eq_def]; exact VRel.up h.1 _ _ r
 | .undef, X, _, r => by rw [fzV.eq_def]; exact VRel.up h.1 _ _ r
 | .any, X, _, r => by rw [fzV.eq_def]; exact VRel.up h.1 _ _ r
 | .bool x, X, _, r => by rw [fzV.eq_def]; exact VRel.up h.1 _ _ r
 | .int k n, X, _, r => by rw [fzV.eq_def]; exact VRel.up h.1 _ _ r
 | .str s, X, _, r => by rw [fzV.eq_def]; exact VRel.up h.1 _ _ r
 | .nilp, X, _, r => by rw [fzV.eq_def]; exact VRel.up h.1 _ _ r
 | .nils, X, _, r => by rw [fzV.eq_def]; exact VRel.up h.1 _ _ r
 | .nilm, X, _, r => by rw [fzV.eq_def]; exact VRel.up h.1 _ _ r
 | .nilf, X, _, r => by rw [fzV.eq_def]; exact VRel.up h.1 _ _ r
 | .nili, X, _, r => by rw [fzV.eq_def]; exact VRel.up h.1 _ _ r
 | .lptr e' L' i j, X, _, r => by rw [fzV.eq_def]; exact VRel.up h.1 _ _ r
 | .lst e' L' cl, X, _, r => by rw [fzV.eq_def]; exact VRel.up h.1 _ _ r
 | .arr e' L', X, _, r => by rw [fzV.eq_def]; exact VRel.up h.1 _ _ r
theorem fzL_rel (h : FzOK ρ ρ' b e L) : ∀ (l : List V) (X : List Value), allB (fzKL b e L l) → LRel ρ l X → LRel ρ' (fzL b e L l) X
 | [], X, _, r => by rw [fzL.eq_def]; exact r
 | v :: l, X, hk, r => by
  rw [fzL.eq_def]
  rw [fzKL.eq_def] at hk
  simp only [lapp_eq, allB_append] at hk ⊢
  obtain ⟨Y, Z, g1, g2, g3⟩ := r
  exact ⟨Y, Z, g1, fzV_rel h v _ hk.1 g2, fzL_rel h l _ hk.2 g3⟩
end
end
end Go.Sym
end

section
namespace Go.Sym
open Go.RowKit (Below)
set_option linter.unusedSimpArgs false
set_option linter.unusedVariables false

def Env.cut (ρ : Env) (k : Nat) : Env := ⟨fun b => bif Nat.blt b k then ρ b else none, min ρ.n k, ρ.φ⟩
def HeapAt (P : Program) (k : Nat) (g : FuncId) (args : List V) (os : List EObj) (v : V) (h' : List (Nat × EObj)) (n' : Nat) : Prop :=
 ∀ (own : Own) (ρ : Env) (w : World) (A : Array Value), SRel own ρ ⟨heapOf (idxO 0 os), os.length⟩ w → LRel ρ args A.toList →
  Calls P g A w fun E w' => ∃ ρ' X, (ρ.cut k).le ρ' ∧ E = .returned X ∧ VRel ρ' v X ∧ SRel own ρ' ⟨heapOf h', n'⟩ w' ∧ Fr own w w'

def HeapX (P : Program) (k : Nat) (g : FuncId) (args : List V) (os : List EObj) (e : EEnd) (h' : List (Nat × EObj)) (n' : Nat) : Prop :=
 ∀ (own : Own) (ρ : Env) (w : World) (A : Array Value), SRel own ρ ⟨heapOf (idxO 0 os), os.length⟩ w → LRel ρ args A.toList →
  Calls P g A w fun E w' => ∃ ρ', (ρ.cut k).le ρ' ∧ NRel ρ' e E ∧ SRel own ρ' ⟨heapOf h', n'⟩ w' ∧ Fr own w w'
theorem HeapAt.x {P : Program} {k : Nat} {g : FuncId} {args : List V} {os : List EObj} {v : V} {h' : List (Nat × EObj)} {n' : Nat} (h : HeapAt P k g args os v h' n') : HeapX P k g args os (.ret v) h' n' :=
 fun own ρ w A hS hA => (h own ρ w A hS hA).mono fun _ _ ⟨ρ', X, a, b, c, d, f⟩ => ⟨ρ', a, ⟨X, b, c⟩, d, f⟩
theorem HeapX.r {P : Program} {k : Nat} {g : FuncId} {args : List V} {os : List EObj} {v : V} {h' : List (Nat × EObj)} {n' : Nat} (h : HeapX P k g args os (.ret v) h' n') : HeapAt P k g args os v h' n' :=
 fun own ρ w A hS hA => (h own ρ w A hS hA).mono fun _ _ ⟨ρ', a, ⟨X, b, c⟩, d, f⟩ => ⟨ρ', X, a, b, c, d, f⟩

inductive HR where
 | res (c : List Bool) (e : EEnd) (h' : List (Nat × EObj)) (n' : Nat)
 | ite (b : Bool) (p q : HR)
noncomputable section
mutual
def nmV : V → List Nat
 | .ptr b _ => [b]
 | .rptr b _ _ _ => [b]
 | .sl b _ _ _ _ _ => [b]
 | .rs b _ _ _ _ _ => [b]
 | .map b => [b]
 | .yld b => [b]
 | .fn _ a c => lapp (nmL a) (nmL c)
 | .iface _ v => nmV v
 | .agg l => nmL l
 | .tup l => nmL l
 | _ => []
def nmL : List V → List Nat
 | [] => []
 | v :: l => lapp (nmV v) (nmL l)
end
def nmM : List (V × V × Nat) → List Nat
 | [] => []
 | e :: l => lapp (nmV e.1) (lapp (nmV e.2.1) (nmM l))
def nmO : Option EObj → List Nat
 | some (.cells cs _ _) => nmL cs
 | some (.map es _) => nmM es
 | _ => []
def memN (b : Nat) : List Nat → Bool
 | [] => false
 | c :: l => bif Nat.beq b c then true else memN b l
def reach (h : T EObj) : Nat → List Nat → List Nat → List Nat
 | 0, _, acc => acc
 | _ + 1, [], acc => acc
 | n + 1, b :: l, acc => bif memN b acc then reach h n l acc else reach h n (lapp l (nmO (h.get b))) (lapp acc [b])
inductive HS where
 | res (c : List Bool) (e : EEnd) (s' : St)
 | ite (b : Bool) (p q : HS)
 | bad
end
theorem Post.le {own : Own} {ρ ρ' : Env} {w : World} {e : EEnd} {s' : St} (h : ρ.le ρ') {E : Ending} {w' : World} (r : Post own ρ' w e s' E w') : Post own ρ w e s' E w' := by
 obtain ⟨ρ2, h1, h2⟩ := r
 exact ⟨ρ2, Env.le_trans h h1, h2⟩
noncomputable section
mutual
def fpV : V → V → List Nat
 | .lst _ _ _, w => (match w with
   | .rs b _ _ _ _ _ => [b]
   | _ => [])
 | .iface _ v, w => (match w with
   | .iface _ u => fpV v u
   | _ => [])
 | .agg l, w => (match w with
   | .agg m => fpL l m
   | _ => [])
 | .tup l, w => (match w with
   | .tup m => fpL l m
   | _ => [])
 | .fn _ a c, w => (match w with
   | .fn _ a' c' => lapp (fpL a a') (fpL c c')
   | _ => [])
 | _, _ => []
def fpL : List V → List V → List Nat
 | [], _ => []
 | v :: l, m => (match m with
   | w :: m => lapp (fpV v w) (fpL l m)
   | [] => [])
end
end
section
variable {P : Program}
theorem HeapAt.lst {k : Nat} {g : FuncId} {e : List Ty} {a : V} {L : List (rowDen e)} {pre rest : List V} {os : List EObj} {v : V} {h' : List (Nat × EObj)} {n' : Nat} (h : HeapAt P k g (pre ++ .lst e L false :: rest) os v h' n') (ha : ofLst e a = some L) : HeapAt P k g (pre ++ a :: rest) os v h' n' := by
 intro own ρ w A hS hA
 refine h own ρ w A hS ?_
 clear h hS
 generalize A.toList = B at hA
 induction pre generalizing B with
 | nil =>
  obtain ⟨x, Y, rfl, h1, h2⟩ := hA
  exact ⟨x, Y, rfl, ofLst_rel ha h1, h2⟩
 | cons b pre ih =>
  obtain ⟨x, Y, rfl, h1, h2⟩ := hA
  exact ⟨x, Y, rfl, h1, ih Y h2⟩
end
end Go.Sym
end
