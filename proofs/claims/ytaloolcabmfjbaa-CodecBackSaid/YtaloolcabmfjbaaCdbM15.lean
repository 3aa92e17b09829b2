/-
  Texts of this claim, one behind the other: CdEq. Each says its own conditions.
-/
import Derived.Test.YtaloolcabmfjbaaCdbM14

set_option linter.unusedVariables false
set_option linter.unusedSimpArgs false
set_option linter.unusedSectionVars false
section
namespace Go.Proofs.Ytaloolcabmfjbaa
open Go.Sym
set_option linter.unusedVariables false
set_option linter.unusedSimpArgs false
set_option maxRecDepth 100000
set_option maxHeartbeats 4000000
noncomputable def oplF (args : List V) : Option (List Bool × V) := match args with
 | [.str s, l, .fn g [] []] => (match ofLst opT l with
   | some L => some ([Nat.beq g 31, decide (s.size ≤ 10000000000000000), opW L], .str (s ++ catZ opY L))
   | none => none)
 | _ => none
theorem oplF_ok (args : List V) (c : List Bool) (v : V) (h : oplF args = some (c, v)) (hc : allB c) : PureAt Try.prog 28 args v := by
 unfold oplF at h
 split at h
 ·split at h
  ·rename_i s l g q L hl
   cases h
   rw [Nat.eq_of_beq_eq_true hc.1]
   exact PureAt.lst (pre := [.str s]) (rest := [.fn 31 [] []]) (opl_at s L (of_decide_eq_true hc.2.1) hc.2.2.1) hl
  ·cases h
 ·cases h
noncomputable def cmlF (args : List V) : Option (List Bool × V) := match args with
 | [.str s, l, .fn g [] []] => (match ofLst cmT l with
   | some L => some ([Nat.beq g 30, decide (s.size ≤ 10000000000000000), cmW L], .str (s ++ catZ cmY L))
   | none => none)
 | _ => none
theorem cmlF_ok (args : List V) (c : List Bool) (v : V) (h : cmlF args = some (c, v)) (hc : allB c) : PureAt Try.prog 29 args v := by
 unfold cmlF at h
 split at h
 ·split at h
  ·rename_i s l g q L hl
   cases h
   rw [Nat.eq_of_beq_eq_true hc.1]
   exact PureAt.lst (pre := [.str s]) (rest := [.fn 30 [] []]) (cml_at s L (of_decide_eq_true hc.2.1) hc.2.2.1) hl
  ·cases h
 ·cases h
noncomputable def kvlF (args : List V) : Option (List Bool × V) := match args with
 | [.str s, l, .fn g [] []] => (match ofLst kvT l with
   | some L => some ([Nat.beq g 88, decide (s.size ≤ 10000000000000000), kvW L], .str (s ++ catZ kvY L))
   | none => none)
 | _ => none
theorem kvlF_ok (args : List V) (c : List Bool) (v : V) (h : kvlF args = some (c, v)) (hc : allB c) : PureAt Try.prog 87 args v := by
 unfold kvlF at h
 split at h
 ·split at h
  ·rename_i s l g q L hl
   cases h
   rw [Nat.eq_of_beq_eq_true hc.1]
   exact PureAt.lst (pre := [.str s]) (rest := [.fn 88 [] []]) (kvl_at s L (of_decide_eq_true hc.2.1) hc.2.2.1) hl
  ·cases h
 ·cases h
noncomputable def chF : RqF := fun k cl nm sr C A B rv => ([cmW C, opW A, opW B, leI 0 cl, leI 0 nm, leI 0 rv], .int .i64 (chE k cl nm sr C A B rv))
noncomputable def tabQ : Tab := oneTab 11 (rqF chF) (oneTab 29 cmlF (oneTab 28 oplF tabE0))
theorem tabQ_ok : TabOK Try.prog tabQ := oneTab_ok (rqF_ok fun k cl nm sr C A B rv h => check_at k cl nm rv sr C A B h.1 h.2.1 h.2.2.1 (of_leI h.2.2.2.1) (of_leI h.2.2.2.2.1) (of_leI h.2.2.2.2.2.1)) (oneTab_ok cmlF_ok (oneTab_ok oplF_ok tabE0_ok))
section
variable (k cl nm rv : Int) (sr : Bool) (C : List CmQ) (A B : List OpQ)
noncomputable def rqh : Int → Int → Int → Bool → Int → ByteArray := hide fun k cl nm sr rv => numT (k % 18446744073709551616) ++ (numT cl ++ (numT nm ++ (numT (tI sr) ++ numT rv)))
theorem rqh_eq : rqh k cl nm sr rv = numT (k % 18446744073709551616) ++ (numT cl ++ (numT nm ++ (numT (tI sr) ++ numT rv))) := by unfold rqh; rw [hide_eq]
noncomputable def rqY : Int → Int → Int → Bool → List CmQ → List OpQ → List OpQ → Int → ByteArray := hide fun k cl nm sr C A B rv => rqh k cl nm sr rv ++ (catZ cmY C ++ (catZ opY A ++ catZ opY B))
theorem rqY_eq : rqY k cl nm sr C A B rv = rqh k cl nm sr rv ++ (catZ cmY C ++ (catZ opY A ++ catZ opY B)) := by unfold rqY; rw [hide_eq]
noncomputable def rqE : Int → Int → Int → Bool → List CmQ → List OpQ → List OpQ → Int → ByteArray := hide fun k cl nm sr C A B rv => bif chB k cl nm sr C A B rv then rqY k cl nm sr C A B rv else ⟨#[]⟩
theorem rqE_eq : rqE k cl nm sr C A B rv = bif chB k cl nm sr C A B rv then rqY k cl nm sr C A B rv else ⟨#[]⟩ := by unfold rqE; rw [hide_eq]
theorem chE_of : chE k cl nm sr C A B rv = bif chB k cl nm sr C A B rv then 0 else 11 := by unfold chE; rw [hide_eq]
theorem encReq_at (wC : cmW C = true) (wA : opW A = true) (wB : opW B = true) (h1 : 0 ≤ cl ∧ cl < 18446744073709551616) (h2 : 0 ≤ nm ∧ nm < 18446744073709551616) (h3 : 0 ≤ rv ∧ rv < 18446744073709551616) : PureAt Try.prog 9 [(.agg [.int .i64 k, .int .u64 cl, .int .u64 nm, .bool sr, .lst cmT C false, .lst opT A false, .lst opT B false, .int .u64 rv])] (.tup [.str (rqE k cl nm sr C A B rv), .int .i64 (chE k cl nm sr C A B rv)]) := by
 have zz : ByteArray.size ⟨#[]⟩ = 0 := rfl
 have z1 := numT_le (k % 18446744073709551616)
 have z2 := numT_le cl
 have z3 := numT_le nm
 have z4 := numT_le (tI sr)
 have z5 := numT_le rv
 have t4 := tI_in sr
 have yC := cmZ_le C wC C.length (Nat.le_refl _)
 have yA := opZ_le A wA A.length (Nat.le_refl _)
 have yB := opZ_le B wB B.length (Nat.le_refl _)
 rw [← catZ_eq] at yC yA yB
 have e1 := chE_of k cl nm rv sr C A B
 have e2 := rqE_eq k cl nm rv sr C A B
 have e3 := rqY_eq k cl nm rv sr C A B
 have e4 := rqh_eq k cl nm rv sr
 refine pure_of_W0 (tab := tabQ) (fuel := 12) (d := 5) tabQ_ok ?_
 cases hb : chB k cl nm sr C A B rv with
 | true =>
  rw [hb, cond_true] at e1 e2
  repeat' ((conv => whnf); first | (with_reducible first | (refine W1.o ?_; constructor) | rfl | exact castL_self _ _) | ((with_reducible refine V.same_t ?_); exact rfl) | ((with_reducible refine andB_room ?_ ?_ ?_); (· kernel_rfl); (· (first | omega | (simp only [lens] <;> omega)))) | ((with_reducible refine W2.o ?_; constructor); · (first | (with_reducible assumption) | (first | omega | (simp only [lens] <;> omega)))) | ((with_reducible refine W3.o ?_; constructor); · (first | (with_reducible assumption) | (first | omega | (simp only [lens] <;> omega)))) | ((with_reducible refine W4.o ?_; constructor); · (first | (with_reducible first | assumption | exact decide_eq_true rfl | exact sEq_self _) | ((with_reducible refine eqOK_i ?_); kernel_rfl) | (first | exact wC | exact wA | exact wB))) | ((with_reducible refine iteB_f ?_ ?_); · (first | (with_reducible first | assumption | exact decide_eq_true rfl | exact sEq_self _) | ((with_reducible refine eqOK_i ?_); kernel_rfl) | (first | exact wC | exact wA | exact wB))) | ((with_reducible refine W2.o ?_; constructor); · (simp only [Sym.rowAt, List.getD_cons_zero, List.getD_cons_succ, Int.zero_add, Nat.zero_add, Int.reduceToNat, Int.reduceAdd, lens] <;> omega)) | ((with_reducible refine W3.o ?_; constructor); · (simp only [Sym.rowAt, List.getD_cons_zero, List.getD_cons_succ, Int.zero_add, Nat.zero_add, Int.reduceToNat, Int.reduceAdd, lens] <;> omega)) | (with_reducible refine W5.o ?_; constructor) | ((with_reducible refine W6.o ?_; constructor) <;> intro hB))
  all_goals ((conv => whnf); (try dsimp only); (try simp only [Nat.succ_eq_add_one, Nat.le_eq, castL_self]); (try omega))
  all_goals (try (first | omega | (simp only [lens] <;> omega)))
  all_goals first
   | exact rfl
   | (rw [e1]; done)
   | (rw [e1]; exact rfl)
   | (rw [e2]; done)
   | (rw [e2]; exact rfl)
   | (rw [e1, e2]; done)
   | (rw [e1, e2]; exact rfl)
   | (rw [e1, e2, e3, e4]; simp only [Sym.rowAt, List.getD_cons_zero, List.getD_cons_succ, Int.zero_add, Nat.zero_add, Int.reduceToNat, Int.reduceAdd, ByteArray.append_assoc, nil_cat]; done)
   | (rw [e2, e3, e4]; simp only [Sym.rowAt, List.getD_cons_zero, List.getD_cons_succ, Int.zero_add, Nat.zero_add, Int.reduceToNat, Int.reduceAdd, ByteArray.append_assoc]; done)
   | (rw [e2, e3, e4]; simp only [Sym.rowAt, List.getD_cons_zero, List.getD_cons_succ, Int.zero_add, Nat.zero_add, Int.reduceToNat, Int.reduceAdd, ByteArray.append_assoc, nil_cat]; done)
   | (simp only [Sym.rowAt, List.getD_cons_zero, List.getD_cons_succ, Int.zero_add, Nat.zero_add, Int.reduceToNat, Int.reduceAdd, lens] <;> omega)
   | trace_state
 | false =>
  rw [hb, cond_false] at e1 e2
  repeat' ((conv => whnf); first | (with_reducible first | (refine W1.o ?_; constructor) | rfl | exact castL_self _ _) | ((with_reducible refine V.same_t ?_); exact rfl) | ((with_reducible refine andB_room ?_ ?_ ?_); (· kernel_rfl); (· (first | omega | (simp only [lens] <;> omega)))) | ((with_reducible refine W2.o ?_; constructor); · (first | (with_reducible assumption) | (first | omega | (simp only [lens] <;> omega)))) | ((with_reducible refine W3.o ?_; constructor); · (first | (with_reducible assumption) | (first | omega | (simp only [lens] <;> omega)))) | ((with_reducible refine W4.o ?_; constructor); · (first | (with_reducible first | assumption | exact decide_eq_true rfl | exact sEq_self _) | ((with_reducible refine eqOK_i ?_); kernel_rfl) | (first | exact wC | exact wA | exact wB))) | ((with_reducible refine iteB_f ?_ ?_); · (first | (with_reducible first | assumption | exact decide_eq_true rfl | exact sEq_self _) | ((with_reducible refine eqOK_i ?_); kernel_rfl) | (first | exact wC | exact wA | exact wB))) | ((with_reducible refine W2.o ?_; constructor); · (simp only [Sym.rowAt, List.getD_cons_zero, List.getD_cons_succ, Int.zero_add, Nat.zero_add, Int.reduceToNat, Int.reduceAdd, lens] <;> omega)) | ((with_reducible refine W3.o ?_; constructor); · (simp only [Sym.rowAt, List.getD_cons_zero, List.getD_cons_succ, Int.zero_add, Nat.zero_add, Int.reduceToNat, Int.reduceAdd, lens] <;> omega)) | (with_reducible refine W5.o ?_; constructor) | ((with_reducible refine W6.o ?_; constructor) <;> intro hB))
  all_goals ((conv => whnf); (try dsimp only); (try simp only [Nat.succ_eq_add_one, Nat.le_eq, castL_self]); (try omega))
  all_goals (try (first | omega | (simp only [lens] <;> omega)))
  all_goals first
   | exact rfl
   | (rw [e1]; done)
   | (rw [e1]; exact rfl)
   | (rw [e2]; done)
   | (rw [e2]; exact rfl)
   | (rw [e1, e2]; done)
   | (rw [e1, e2]; exact rfl)
   | (rw [e1, e2, e3, e4]; simp only [Sym.rowAt, List.getD_cons_zero, List.getD_cons_succ, Int.zero_add, Nat.zero_add, Int.reduceToNat, Int.reduceAdd, ByteArray.append_assoc, nil_cat]; done)
   | (rw [e2, e3, e4]; simp only [Sym.rowAt, List.getD_cons_zero, List.getD_cons_succ, Int.zero_add, Nat.zero_add, Int.reduceToNat, Int.reduceAdd, ByteArray.append_assoc]; done)
   | (rw [e2, e3, e4]; simp only [Sym.rowAt, List.getD_cons_zero, List.getD_cons_succ, Int.zero_add, Nat.zero_add, Int.reduceToNat, Int.reduceAdd, ByteArray.append_assoc, nil_cat]; done)
   | (simp only [Sym.rowAt, List.getD_cons_zero, List.getD_cons_succ, Int.zero_add, Nat.zero_add, Int.reduceToNat, Int.reduceAdd, lens] <;> omega)
   | trace_state
end
end Go.Proofs.Ytaloolcabmfjbaa
end
