/-
  Texts of this claim, one behind the other: CdChk2. Each says its own conditions.
-/
import Derived.Test.YtaloolcabmfjbaaCdrM12

set_option linter.unusedVariables false
set_option linter.unusedSimpArgs false
set_option linter.unusedSectionVars false
noncomputable section
namespace Go.Proofs.Ytaloolcabmfjbaa
open Go.Sym
set_option maxRecDepth 100000
set_option maxHeartbeats 4000000
theorem LRel.cons_of {ρ : Env} {a b : V} {l m : List V} (h : ∀ X, VRel ρ a X → VRel ρ b X) (k : ∀ W, LRel ρ l W → LRel ρ m W) : ∀ W, LRel ρ (a :: l) W → LRel ρ (b :: m) W := by
 rintro W ⟨x, Y, rfl, h1, h2⟩
 exact ⟨x, Y, rfl, h _ h1, k _ h2⟩
theorem agg_of {ρ : Env} {l m : List V} (k : ∀ W, LRel ρ l W → LRel ρ m W) : ∀ X, VRel ρ (.agg l) X → VRel ρ (.agg m) X := by
 intro X h
 simp only [VRel] at h ⊢
 obtain ⟨A, rfl, h⟩ := h
 exact ⟨A, rfl, k _ h⟩
abbrev RqF : Type := Int → Int → Int → Bool → List CmQ → List OpQ → List OpQ → Int → List Bool × V
def rqF (f : RqF) (args : List V) : Option (List Bool × V) := match args with
 | [.agg [.int .i64 k, .int .u64 cl, .int .u64 nm, .bool sr, c, a, b, .int .u64 rv]] => (match ofLst cmT c, ofLst opT a, ofLst opT b with
   | some C, some A, some B => some (f k cl nm sr C A B rv)
   | _, _, _ => none)
 | _ => none
theorem rqF_ok {P : Program} {g : FuncId} {f : RqF} (hf : ∀ k cl nm sr C A B rv, allB (f k cl nm sr C A B rv).1 → PureAt P g [(.agg [.int .i64 k, .int .u64 cl, .int .u64 nm, .bool sr, .lst cmT C false, .lst opT A false, .lst opT B false, .int .u64 rv])] (f k cl nm sr C A B rv).2) (args : List V) (c : List Bool) (v : V) (h : rqF f args = some (c, v)) (hc : allB c) : PureAt P g args v := by
 unfold rqF at h
 split at h
 ·split at h
  ·rename_i k cl nm sr c a b rv q1 q2 q3 C A B h1 h2 h3
   have e : f k cl nm sr C A B rv = (_, _) := Option.some.inj h
   have hg := hf k cl nm sr C A B rv (by rw [e]; exact hc)
   rw [e] at hg
   refine hg.weak fun φ X hX => ?_
   exact LRel.cons_of (agg_of (LRel.cons_of (fun _ h => h) (LRel.cons_of (fun _ h => h) (LRel.cons_of (fun _ h => h) (LRel.cons_of (fun _ h => h) (LRel.cons_of (fun _ h => ofLst_rel h1 h) (LRel.cons_of (fun _ h => ofLst_rel h2 h) (LRel.cons_of (fun _ h => ofLst_rel h3 h) fun _ h => h)))))))) (fun _ h => h) X hX
  ·cases h
 ·cases h
def wrF : RqF := fun k cl nm sr C A B rv => ([opW A, opW B], .bool (wrB k A B))
def stF : RqF := fun k cl nm sr C A B rv => ([cmW C, opW A, opW B], .int .i64 (stE k C A B))
def tabZ : Tab := oneTab 13 (rqF wrF) (oneTab 37 (rqF stF) noTab)
theorem tabZ_ok : TabOK Try.prog tabZ := oneTab_ok (rqF_ok fun k cl nm sr C A B rv h => writes_at k cl nm rv sr C A B h.1 h.2.1) (oneTab_ok (rqF_ok fun k cl nm sr C A B rv h => stcheck_at k cl nm rv sr C A B h.1 h.2.1 h.2.2.1) noTab_ok)
section
variable (k cl nm rv : Int) (sr : Bool) (C : List CmQ) (A B : List OpQ)
def chB : Int → Int → Int → Bool → List CmQ → List OpQ → List OpQ → Int → Bool := hide fun k cl nm sr C A B rv => decide (((k = 0 ∧ stB k C A B = true ∧ rv = 0) ∨ (k = 1 ∧ (C.length = 0 ∧ A.length = 0 ∧ B.length = 0 ∧ sr = false) ∧ 1 ≤ rv ∧ rv ≤ 1099511627776) ∨ (k = 2 ∧ (C.length = 0 ∧ A.length = 0 ∧ B.length = 0 ∧ sr = false) ∧ rv ≤ 1099511627776) ∨ (k = 3 ∧ (C.length = 0 ∧ A.length = 0 ∧ B.length = 0 ∧ sr = false) ∧ rv = 0)) ∧ ((wrB k A B = true ∧ sr = false ∧ 1 ≤ cl ∧ cl < 281474976710656 ∧ 1 ≤ nm ∧ nm ≤ 1099511627776) ∨ (wrB k A B = false ∧ cl = 0 ∧ nm = 0)))
theorem chB_eq : chB k cl nm sr C A B rv = decide (((k = 0 ∧ stB k C A B = true ∧ rv = 0) ∨ (k = 1 ∧ (C.length = 0 ∧ A.length = 0 ∧ B.length = 0 ∧ sr = false) ∧ 1 ≤ rv ∧ rv ≤ 1099511627776) ∨ (k = 2 ∧ (C.length = 0 ∧ A.length = 0 ∧ B.length = 0 ∧ sr = false) ∧ rv ≤ 1099511627776) ∨ (k = 3 ∧ (C.length = 0 ∧ A.length = 0 ∧ B.length = 0 ∧ sr = false) ∧ rv = 0)) ∧ ((wrB k A B = true ∧ sr = false ∧ 1 ≤ cl ∧ cl < 281474976710656 ∧ 1 ≤ nm ∧ nm ≤ 1099511627776) ∨ (wrB k A B = false ∧ cl = 0 ∧ nm = 0))) := by unfold chB; rw [hide_eq]
def chE : Int → Int → Int → Bool → List CmQ → List OpQ → List OpQ → Int → Int := hide fun k cl nm sr C A B rv => bif chB k cl nm sr C A B rv then 0 else 11
theorem chE_eq : chE k cl nm sr C A B rv = bif decide (((k = 0 ∧ stB k C A B = true ∧ rv = 0) ∨ (k = 1 ∧ (C.length = 0 ∧ A.length = 0 ∧ B.length = 0 ∧ sr = false) ∧ 1 ≤ rv ∧ rv ≤ 1099511627776) ∨ (k = 2 ∧ (C.length = 0 ∧ A.length = 0 ∧ B.length = 0 ∧ sr = false) ∧ rv ≤ 1099511627776) ∨ (k = 3 ∧ (C.length = 0 ∧ A.length = 0 ∧ B.length = 0 ∧ sr = false) ∧ rv = 0)) ∧ ((wrB k A B = true ∧ sr = false ∧ 1 ≤ cl ∧ cl < 281474976710656 ∧ 1 ≤ nm ∧ nm ≤ 1099511627776) ∨ (wrB k A B = false ∧ cl = 0 ∧ nm = 0))) then 0 else 11 := by unfold chE; rw [hide_eq, chB_eq]
theorem check_0 (wC : cmW C = true) (wA : opW A = true) (wB : opW B = true) (h1 : 0 ≤ cl) (h2 : 0 ≤ nm) (h3 : 0 ≤ rv) : PureAt Try.prog 11 [(.agg [.int .i64 0, .int .u64 cl, .int .u64 nm, .bool sr, .lst cmT C false, .lst opT A false, .lst opT B false, .int .u64 rv])] (.int .i64 (chE 0 cl nm sr C A B rv)) := by
 have e := chE_eq 0 cl nm rv sr C A B
 have es := stE_eq 0 C A B
 have lC := ((cmW_iff C).1 wC).1
 have lA := ((opW_iff A).1 wA).1
 have lB := ((opW_iff B).1 wB).1
 refine pure_of_W0 (tab := tabZ) (fuel := 4) (d := 6) tabZ_ok ?_
 cases hs : stB 0 C A B with
 | true =>
  have es : stE 0 C A B = 0 := by rw [es, hs]; rfl
  cases hw : wrB 0 A B with
  | true =>
   repeat' ((conv => whnf); first | (with_reducible first | (refine W1.o ?_; constructor) | rfl | exact castL_self _ _) | ((with_reducible refine V.same_t ?_); exact rfl) | ((with_reducible refine andB_room ?_ ?_ ?_); (· kernel_rfl); (· (first | omega | (simp only [lens] <;> omega)))) | ((with_reducible refine W2.o ?_; constructor); · (first | with_reducible assumption | omega | (simp only [lens] <;> omega))) | ((with_reducible refine W3.o ?_; constructor); · (first | with_reducible assumption | omega | (simp only [lens] <;> omega))) | ((with_reducible refine W4.o ?_; constructor); · (first | (with_reducible first | assumption | exact decide_eq_true rfl | exact sEq_self _) | ((with_reducible refine eqOK_i ?_); kernel_rfl) | exact wC | exact wA | exact wB | exact hw)) | ((with_reducible refine iteB_f ?_ ?_); · (first | (with_reducible first | assumption | exact decide_eq_true rfl | exact sEq_self _) | ((with_reducible refine eqOK_i ?_); kernel_rfl) | exact wC | exact wA | exact wB | exact hw)) | (with_reducible refine W5.o ?_; constructor) | ((with_reducible refine W6.o ?_; constructor) <;> intro hB))
   all_goals ((conv => whnf); (try dsimp only); (try simp only [Nat.succ_eq_add_one, Nat.le_eq, castL_self]); (try omega))
   all_goals (try (first | omega | (simp only [lens] <;> omega)))
   all_goals (rw [e]; clear e)
   all_goals first
    | (refine dec11 ?_; (try rw [hs]); (try rw [hw]); (try clear es); (try cases sr) <;> (try simp only [castL_self, eq_self, reduceCtorEq, and_true, and_false, true_and, false_and, or_false, false_or, not_false_eq_true, not_true_eq_false] at *) <;> omega)
    | (refine dec0 ?_; (try rw [hs]); (try rw [hw]); (try clear es); (try cases sr) <;> (try simp only [castL_self, eq_self, reduceCtorEq, and_true, and_false, true_and, false_and, or_false, false_or, not_false_eq_true, not_true_eq_false] at *) <;> omega)
  | false =>
   repeat' ((conv => whnf); first | (with_reducible first | (refine W1.o ?_; constructor) | rfl | exact castL_self _ _) | ((with_reducible refine V.same_t ?_); exact rfl) | ((with_reducible refine andB_room ?_ ?_ ?_); (· kernel_rfl); (· (first | omega | (simp only [lens] <;> omega)))) | ((with_reducible refine W2.o ?_; constructor); · (first | with_reducible assumption | omega | (simp only [lens] <;> omega))) | ((with_reducible refine W3.o ?_; constructor); · (first | with_reducible assumption | omega | (simp only [lens] <;> omega))) | ((with_reducible refine W4.o ?_; constructor); · (first | (with_reducible first | assumption | exact decide_eq_true rfl | exact sEq_self _) | ((with_reducible refine eqOK_i ?_); kernel_rfl) | exact wC | exact wA | exact wB | exact hw)) | ((with_reducible refine iteB_f ?_ ?_); · (first | (with_reducible first | assumption | exact decide_eq_true rfl | exact sEq_self _) | ((with_reducible refine eqOK_i ?_); kernel_rfl) | exact wC | exact wA | exact wB | exact hw)) | (with_reducible refine W5.o ?_; constructor) | ((with_reducible refine W6.o ?_; constructor) <;> intro hB))
   all_goals ((conv => whnf); (try dsimp only); (try simp only [Nat.succ_eq_add_one, Nat.le_eq, castL_self]); (try omega))
   all_goals (try (first | omega | (simp only [lens] <;> omega)))
   all_goals (rw [e]; clear e)
   all_goals first
    | (refine dec11 ?_; (try rw [hs]); (try rw [hw]); (try clear es); (try cases sr) <;> (try simp only [castL_self, eq_self, reduceCtorEq, and_true, and_false, true_and, false_and, or_false, false_or, not_false_eq_true, not_true_eq_false] at *) <;> omega)
    | (refine dec0 ?_; (try rw [hs]); (try rw [hw]); (try clear es); (try cases sr) <;> (try simp only [castL_self, eq_self, reduceCtorEq, and_true, and_false, true_and, false_and, or_false, false_or, not_false_eq_true, not_true_eq_false] at *) <;> omega)
 | false =>
  have es : stE 0 C A B = 11 := by rw [es, hs]; rfl
  cases hw : wrB 0 A B with
  | true =>
   repeat' ((conv => whnf); first | (with_reducible first | (refine W1.o ?_; constructor) | rfl | exact castL_self _ _) | ((with_reducible refine V.same_t ?_); exact rfl) | ((with_reducible refine andB_room ?_ ?_ ?_); (· kernel_rfl); (· (first | omega | (simp only [lens] <;> omega)))) | ((with_reducible refine W2.o ?_; constructor); · (first | with_reducible assumption | omega | (simp only [lens] <;> omega))) | ((with_reducible refine W3.o ?_; constructor); · (first | with_reducible assumption | omega | (simp only [lens] <;> omega))) | ((with_reducible refine W4.o ?_; constructor); · (first | (with_reducible first | assumption | exact decide_eq_true rfl | exact sEq_self _) | ((with_reducible refine eqOK_i ?_); kernel_rfl) | exact wC | exact wA | exact wB | exact hw)) | ((with_reducible refine iteB_f ?_ ?_); · (first | (with_reducible first | assumption | exact decide_eq_true rfl | exact sEq_self _) | ((with_reducible refine eqOK_i ?_); kernel_rfl) | exact wC | exact wA | exact wB | exact hw)) | (with_reducible refine W5.o ?_; constructor) | ((with_reducible refine W6.o ?_; constructor) <;> intro hB))
   all_goals ((conv => whnf); (try dsimp only); (try simp only [Nat.succ_eq_add_one, Nat.le_eq, castL_self]); (try omega))
   all_goals (try (first | omega | (simp only [lens] <;> omega)))
   all_goals (rw [e]; clear e)
   all_goals first
    | (refine dec11 ?_; (try rw [hs]); (try rw [hw]); (try clear es); (try cases sr) <;> (try simp only [castL_self, eq_self, reduceCtorEq, and_true, and_false, true_and, false_and, or_false, false_or, not_false_eq_true, not_true_eq_false] at *) <;> omega)
    | (refine dec0 ?_; (try rw [hs]); (try rw [hw]); (try clear es); (try cases sr) <;> (try simp only [castL_self, eq_self, reduceCtorEq, and_true, and_false, true_and, false_and, or_false, false_or, not_false_eq_true, not_true_eq_false] at *) <;> omega)
  | false =>
   repeat' ((conv => whnf); first | (with_reducible first | (refine W1.o ?_; constructor) | rfl | exact castL_self _ _) | ((with_reducible refine V.same_t ?_); exact rfl) | ((with_reducible refine andB_room ?_ ?_ ?_); (· kernel_rfl); (· (first | omega | (simp only [lens] <;> omega)))) | ((with_reducible refine W2.o ?_; constructor); · (first | with_reducible assumption | omega | (simp only [lens] <;> omega))) | ((with_reducible refine W3.o ?_; constructor); · (first | with_reducible assumption | omega | (simp only [lens] <;> omega))) | ((with_reducible refine W4.o ?_; constructor); · (first | (with_reducible first | assumption | exact decide_eq_true rfl | exact sEq_self _) | ((with_reducible refine eqOK_i ?_); kernel_rfl) | exact wC | exact wA | exact wB | exact hw)) | ((with_reducible refine iteB_f ?_ ?_); · (first | (with_reducible first | assumption | exact decide_eq_true rfl | exact sEq_self _) | ((with_reducible refine eqOK_i ?_); kernel_rfl) | exact wC | exact wA | exact wB | exact hw)) | (with_reducible refine W5.o ?_; constructor) | ((with_reducible refine W6.o ?_; constructor) <;> intro hB))
   all_goals ((conv => whnf); (try dsimp only); (try simp only [Nat.succ_eq_add_one, Nat.le_eq, castL_self]); (try omega))
   all_goals (try (first | omega | (simp only [lens] <;> omega)))
   all_goals (rw [e]; clear e)
   all_goals first
    | (refine dec11 ?_; (try rw [hs]); (try rw [hw]); (try clear es); (try cases sr) <;> (try simp only [castL_self, eq_self, reduceCtorEq, and_true, and_false, true_and, false_and, or_false, false_or, not_false_eq_true, not_true_eq_false] at *) <;> omega)
    | (refine dec0 ?_; (try rw [hs]); (try rw [hw]); (try clear es); (try cases sr) <;> (try simp only [castL_self, eq_self, reduceCtorEq, and_true, and_false, true_and, false_and, or_false, false_or, not_false_eq_true, not_true_eq_false] at *) <;> omega)
theorem check_1 (wC : cmW C = true) (wA : opW A = true) (wB : opW B = true) (h1 : 0 ≤ cl) (h2 : 0 ≤ nm) (h3 : 0 ≤ rv) : PureAt Try.prog 11 [(.agg [.int .i64 1, .int .u64 cl, .int .u64 nm, .bool sr, .lst cmT C false, .lst opT A false, .lst opT B false, .int .u64 rv])] (.int .i64 (chE 1 cl nm sr C A B rv)) := by
 have e := chE_eq 1 cl nm rv sr C A B
 have lC := ((cmW_iff C).1 wC).1
 have lA := ((opW_iff A).1 wA).1
 have lB := ((opW_iff B).1 wB).1
 refine pure_of_W0 (tab := tabZ) (fuel := 4) (d := 6) tabZ_ok ?_
 cases hw : wrB 1 A B with
 | true =>
  repeat' ((conv => whnf); first | (with_reducible first | (refine W1.o ?_; constructor) | rfl | exact castL_self _ _) | ((with_reducible refine V.same_t ?_); exact rfl) | ((with_reducible refine andB_room ?_ ?_ ?_); (· kernel_rfl); (· (first | omega | (simp only [lens] <;> omega)))) | ((with_reducible refine W2.o ?_; constructor); · (first | with_reducible assumption | omega | (simp only [lens] <;> omega))) | ((with_reducible refine W3.o ?_; constructor); · (first | with_reducible assumption | omega | (simp only [lens] <;> omega))) | ((with_reducible refine W4.o ?_; constructor); · (first | (with_reducible first | assumption | exact decide_eq_true rfl | exact sEq_self _) | ((with_reducible refine eqOK_i ?_); kernel_rfl) | exact wC | exact wA | exact wB | exact hw)) | ((with_reducible refine iteB_f ?_ ?_); · (first | (with_reducible first | assumption | exact decide_eq_true rfl | exact sEq_self _) | ((with_reducible refine eqOK_i ?_); kernel_rfl) | exact wC | exact wA | exact wB | exact hw)) | (with_reducible refine W5.o ?_; constructor) | ((with_reducible refine W6.o ?_; constructor) <;> intro hB))
  all_goals ((conv => whnf); (try dsimp only); (try simp only [Nat.succ_eq_add_one, Nat.le_eq, castL_self]); (try omega))
  all_goals (try (first | omega | (simp only [lens] <;> omega)))
  all_goals (rw [e]; clear e)
  all_goals first
   | (refine dec11 ?_; (try rw [hs]); (try rw [hw]); (try clear es); (try cases sr) <;> (try simp only [castL_self, eq_self, reduceCtorEq, and_true, and_false, true_and, false_and, or_false, false_or, not_false_eq_true, not_true_eq_false] at *) <;> omega)
   | (refine dec0 ?_; (try rw [hs]); (try rw [hw]); (try clear es); (try cases sr) <;> (try simp only [castL_self, eq_self, reduceCtorEq, and_true, and_false, true_and, false_and, or_false, false_or, not_false_eq_true, not_true_eq_false] at *) <;> omega)
 | false =>
  repeat' ((conv => whnf); first | (with_reducible first | (refine W1.o ?_; constructor) | rfl | exact castL_self _ _) | ((with_reducible refine V.same_t ?_); exact rfl) | ((with_reducible refine andB_room ?_ ?_ ?_); (· kernel_rfl); (· (first | omega | (simp only [lens] <;> omega)))) | ((with_reducible refine W2.o ?_; constructor); · (first | with_reducible assumption | omega | (simp only [lens] <;> omega))) | ((with_reducible refine W3.o ?_; constructor); · (first | with_reducible assumption | omega | (simp only [lens] <;> omega))) | ((with_reducible refine W4.o ?_; constructor); · (first | (with_reducible first | assumption | exact decide_eq_true rfl | exact sEq_self _) | ((with_reducible refine eqOK_i ?_); kernel_rfl) | exact wC | exact wA | exact wB | exact hw)) | ((with_reducible refine iteB_f ?_ ?_); · (first | (with_reducible first | assumption | exact decide_eq_true rfl | exact sEq_self _) | ((with_reducible refine eqOK_i ?_); kernel_rfl) | exact wC | exact wA | exact wB | exact hw)) | (with_reducible refine W5.o ?_; constructor) | ((with_reducible refine W6.o ?_; constructor) <;> intro hB))
  all_goals ((conv => whnf); (try dsimp only); (try simp only [Nat.succ_eq_add_one, Nat.le_eq, castL_self]); (try omega))
  all_goals (try (first | omega | (simp only [lens] <;> omega)))
  all_goals (rw [e]; clear e)
  all_goals first
   | (refine dec11 ?_; (try rw [hs]); (try rw [hw]); (try clear es); (try cases sr) <;> (try simp only [castL_self, eq_self, reduceCtorEq, and_true, and_false, true_and, false_and, or_false, false_or, not_false_eq_true, not_true_eq_false] at *) <;> omega)
   | (refine dec0 ?_; (try rw [hs]); (try rw [hw]); (try clear es); (try cases sr) <;> (try simp only [castL_self, eq_self, reduceCtorEq, and_true, and_false, true_and, false_and, or_false, false_or, not_false_eq_true, not_true_eq_false] at *) <;> omega)
theorem check_2 (wC : cmW C = true) (wA : opW A = true) (wB : opW B = true) (h1 : 0 ≤ cl) (h2 : 0 ≤ nm) (h3 : 0 ≤ rv) : PureAt Try.prog 11 [(.agg [.int .i64 2, .int .u64 cl, .int .u64 nm, .bool sr, .lst cmT C false, .lst opT A false, .lst opT B false, .int .u64 rv])] (.int .i64 (chE 2 cl nm sr C A B rv)) := by
 have e := chE_eq 2 cl nm rv sr C A B
 have lC := ((cmW_iff C).1 wC).1
 have lA := ((opW_iff A).1 wA).1
 have lB := ((opW_iff B).1 wB).1
 refine pure_of_W0 (tab := tabZ) (fuel := 4) (d := 6) tabZ_ok ?_
 cases hw : wrB 2 A B with
 | true =>
  repeat' ((conv => whnf); first | (with_reducible first | (refine W1.o ?_; constructor) | rfl | exact castL_self _ _) | ((with_reducible refine V.same_t ?_); exact rfl) | ((with_reducible refine andB_room ?_ ?_ ?_); (· kernel_rfl); (· (first | omega | (simp only [lens] <;> omega)))) | ((with_reducible refine W2.o ?_; constructor); · (first | with_reducible assumption | omega | (simp only [lens] <;> omega))) | ((with_reducible refine W3.o ?_; constructor); · (first | with_reducible assumption | omega | (simp only [lens] <;> omega))) | ((with_reducible refine W4.o ?_; constructor); · (first | (with_reducible first | assumption | exact decide_eq_true rfl | exact sEq_self _) | ((with_reducible refine eqOK_i ?_); kernel_rfl) | exact wC | exact wA | exact wB | exact hw)) | ((with_reducible refine iteB_f ?_ ?_); · (first | (with_reducible first | assumption | exact decide_eq_true rfl | exact sEq_self _) | ((with_reducible refine eqOK_i ?_); kernel_rfl) | exact wC | exact wA | exact wB | exact hw)) | (with_reducible refine W5.o ?_; constructor) | ((with_reducible refine W6.o ?_; constructor) <;> intro hB))
  all_goals ((conv => whnf); (try dsimp only); (try simp only [Nat.succ_eq_add_one, Nat.le_eq, castL_self]); (try omega))
  all_goals (try (first | omega | (simp only [lens] <;> omega)))
  all_goals (rw [e]; clear e)
  all_goals first
   | (refine dec11 ?_; (try rw [hs]); (try rw [hw]); (try clear es); (try cases sr) <;> (try simp only [castL_self, eq_self, reduceCtorEq, and_true, and_false, true_and, false_and, or_false, false_or, not_false_eq_true, not_true_eq_false] at *) <;> omega)
   | (refine dec0 ?_; (try rw [hs]); (try rw [hw]); (try clear es); (try cases sr) <;> (try simp only [castL_self, eq_self, reduceCtorEq, and_true, and_false, true_and, false_and, or_false, false_or, not_false_eq_true, not_true_eq_false] at *) <;> omega)
 | false =>
  repeat' ((conv => whnf); first | (with_reducible first | (refine W1.o ?_; constructor) | rfl | exact castL_self _ _) | ((with_reducible refine V.same_t ?_); exact rfl) | ((with_reducible refine andB_room ?_ ?_ ?_); (· kernel_rfl); (· (first | omega | (simp only [lens] <;> omega)))) | ((with_reducible refine W2.o ?_; constructor); · (first | with_reducible assumption | omega | (simp only [lens] <;> omega))) | ((with_reducible refine W3.o ?_; constructor); · (first | with_reducible assumption | omega | (simp only [lens] <;> omega))) | ((with_reducible refine W4.o ?_; constructor); · (first | (with_reducible first | assumption | exact decide_eq_true rfl | exact sEq_self _) | ((with_reducible refine eqOK_i ?_); kernel_rfl) | exact wC | exact wA | exact wB | exact hw)) | ((with_reducible refine iteB_f ?_ ?_); · (first | (with_reducible first | assumption | exact decide_eq_true rfl | exact sEq_self _) | ((with_reducible refine eqOK_i ?_); kernel_rfl) | exact wC | exact wA | exact wB | exact hw)) | (with_reducible refine W5.o ?_; constructor) | ((with_reducible refine W6.o ?_; constructor) <;> intro hB))
  all_goals ((conv => whnf); (try dsimp only); (try simp only [Nat.succ_eq_add_one, Nat.le_eq, castL_self]); (try omega))
  all_goals (try (first | omega | (simp only [lens] <;> omega)))
  all_goals (rw [e]; clear e)
  all_goals first
   | (refine dec11 ?_; (try rw [hs]); (try rw [hw]); (try clear es); (try cases sr) <;> (try simp only [castL_self, eq_self, reduceCtorEq, and_true, and_false, true_and, false_and, or_false, false_or, not_false_eq_true, not_true_eq_false] at *) <;> omega)
   | (refine dec0 ?_; (try rw [hs]); (try rw [hw]); (try clear es); (try cases sr) <;> (try simp only [castL_self, eq_self, reduceCtorEq, and_true, and_false, true_and, false_and, or_false, false_or, not_false_eq_true, not_true_eq_false] at *) <;> omega)
theorem check_3 (wC : cmW C = true) (wA : opW A = true) (wB : opW B = true) (h1 : 0 ≤ cl) (h2 : 0 ≤ nm) (h3 : 0 ≤ rv) : PureAt Try.prog 11 [(.agg [.int .i64 3, .int .u64 cl, .int .u64 nm, .bool sr, .lst cmT C false, .lst opT A false, .lst opT B false, .int .u64 rv])] (.int .i64 (chE 3 cl nm sr C A B rv)) := by
 have e := chE_eq 3 cl nm rv sr C A B
 have lC := ((cmW_iff C).1 wC).1
 have lA := ((opW_iff A).1 wA).1
 have lB := ((opW_iff B).1 wB).1
 refine pure_of_W0 (tab := tabZ) (fuel := 4) (d := 6) tabZ_ok ?_
 cases hw : wrB 3 A B with
 | true =>
  repeat' ((conv => whnf); first | (with_reducible first | (refine W1.o ?_; constructor) | rfl | exact castL_self _ _) | ((with_reducible refine V.same_t ?_); exact rfl) | ((with_reducible refine andB_room ?_ ?_ ?_); (· kernel_rfl); (· (first | omega | (simp only [lens] <;> omega)))) | ((with_reducible refine W2.o ?_; constructor); · (first | with_reducible assumption | omega | (simp only [lens] <;> omega))) | ((with_reducible refine W3.o ?_; constructor); · (first | with_reducible assumption | omega | (simp only [lens] <;> omega))) | ((with_reducible refine W4.o ?_; constructor); · (first | (with_reducible first | assumption | exact decide_eq_true rfl | exact sEq_self _) | ((with_reducible refine eqOK_i ?_); kernel_rfl) | exact wC | exact wA | exact wB | exact hw)) | ((with_reducible refine iteB_f ?_ ?_); · (first | (with_reducible first | assumption | exact decide_eq_true rfl | exact sEq_self _) | ((with_reducible refine eqOK_i ?_); kernel_rfl) | exact wC | exact wA | exact wB | exact hw)) | (with_reducible refine W5.o ?_; constructor) | ((with_reducible refine W6.o ?_; constructor) <;> intro hB))
  all_goals ((conv => whnf); (try dsimp only); (try simp only [Nat.succ_eq_add_one, Nat.le_eq, castL_self]); (try omega))
  all_goals (try (first | omega | (simp only [lens] <;> omega)))
  all_goals (rw [e]; clear e)
  all_goals first
   | (refine dec11 ?_; (try rw [hs]); (try rw [hw]); (try clear es); (try cases sr) <;> (try simp only [castL_self, eq_self, reduceCtorEq, and_true, and_false, true_and, false_and, or_false, false_or, not_false_eq_true, not_true_eq_false] at *) <;> omega)
   | (refine dec0 ?_; (try rw [hs]); (try rw [hw]); (try clear es); (try cases sr) <;> (try simp only [castL_self, eq_self, reduceCtorEq, and_true, and_false, true_and, false_and, or_false, false_or, not_false_eq_true, not_true_eq_false] at *) <;> omega)
 | false =>
  repeat' ((conv => whnf); first | (with_reducible first | (refine W1.o ?_; constructor) | rfl | exact castL_self _ _) | ((with_reducible refine V.same_t ?_); exact rfl) | ((with_reducible refine andB_room ?_ ?_ ?_); (· kernel_rfl); (· (first | omega | (simp only [lens] <;> omega)))) | ((with_reducible refine W2.o ?_; constructor); · (first | with_reducible assumption | omega | (simp only [lens] <;> omega))) | ((with_reducible refine W3.o ?_; constructor); · (first | with_reducible assumption | omega | (simp only [lens] <;> omega))) | ((with_reducible refine W4.o ?_; constructor); · (first | (with_reducible first | assumption | exact decide_eq_true rfl | exact sEq_self _) | ((with_reducible refine eqOK_i ?_); kernel_rfl) | exact wC | exact wA | exact wB | exact hw)) | ((with_reducible refine iteB_f ?_ ?_); · (first | (with_reducible first | assumption | exact decide_eq_true rfl | exact sEq_self _) | ((with_reducible refine eqOK_i ?_); kernel_rfl) | exact wC | exact wA | exact wB | exact hw)) | (with_reducible refine W5.o ?_; constructor) | ((with_reducible refine W6.o ?_; constructor) <;> intro hB))
  all_goals ((conv => whnf); (try dsimp only); (try simp only [Nat.succ_eq_add_one, Nat.le_eq, castL_self]); (try omega))
  all_goals (try (first | omega | (simp only [lens] <;> omega)))
  all_goals (rw [e]; clear e)
  all_goals first
   | (refine dec11 ?_; (try rw [hs]); (try rw [hw]); (try clear es); (try cases sr) <;> (try simp only [castL_self, eq_self, reduceCtorEq, and_true, and_false, true_and, false_and, or_false, false_or, not_false_eq_true, not_true_eq_false] at *) <;> omega)
   | (refine dec0 ?_; (try rw [hs]); (try rw [hw]); (try clear es); (try cases sr) <;> (try simp only [castL_self, eq_self, reduceCtorEq, and_true, and_false, true_and, false_and, or_false, false_or, not_false_eq_true, not_true_eq_false] at *) <;> omega)
theorem check_n (n : Nat) (wC : cmW C = true) (wA : opW A = true) (wB : opW B = true) (h1 : 0 ≤ cl) (h2 : 0 ≤ nm) (h3 : 0 ≤ rv) : PureAt Try.prog 11 [(.agg [.int .i64 (Int.ofNat (n + 4)), .int .u64 cl, .int .u64 nm, .bool sr, .lst cmT C false, .lst opT A false, .lst opT B false, .int .u64 rv])] (.int .i64 (chE (Int.ofNat (n + 4)) cl nm sr C A B rv)) := by
 have e := chE_eq (Int.ofNat (n + 4)) cl nm rv sr C A B
 have lC := ((cmW_iff C).1 wC).1
 have lA := ((opW_iff A).1 wA).1
 have lB := ((opW_iff B).1 wB).1
 have hk : 4 ≤ Int.ofNat (n + 4) := by simp only [Int.ofNat_eq_natCast]; omega
 refine pure_of_W0 (tab := tabZ) (fuel := 4) (d := 6) tabZ_ok ?_
 cases hw : wrB (Int.ofNat (n + 4)) A B with
 | true =>
  repeat' ((conv => whnf); first | (with_reducible first | (refine W1.o ?_; constructor) | rfl | exact castL_self _ _) | ((with_reducible refine V.same_t ?_); exact rfl) | ((with_reducible refine andB_room ?_ ?_ ?_); (· kernel_rfl); (· (first | omega | (simp only [lens] <;> omega)))) | ((with_reducible refine W2.o ?_; constructor); · (first | with_reducible assumption | omega | (simp only [lens] <;> omega))) | ((with_reducible refine W3.o ?_; constructor); · (first | with_reducible assumption | omega | (simp only [lens] <;> omega))) | ((with_reducible refine W4.o ?_; constructor); · (first | (with_reducible first | assumption | exact decide_eq_true rfl | exact sEq_self _) | ((with_reducible refine eqOK_i ?_); kernel_rfl) | exact wC | exact wA | exact wB | exact hw)) | ((with_reducible refine iteB_f ?_ ?_); · (first | (with_reducible first | assumption | exact decide_eq_true rfl | exact sEq_self _) | ((with_reducible refine eqOK_i ?_); kernel_rfl) | exact wC | exact wA | exact wB | exact hw)) | (with_reducible refine W5.o ?_; constructor) | ((with_reducible refine W6.o ?_; constructor) <;> intro hB))
  all_goals ((conv => whnf); (try dsimp only); (try simp only [Nat.succ_eq_add_one, Nat.le_eq, castL_self]); (try omega))
  all_goals (try (first | omega | (simp only [lens] <;> omega)))
  all_goals (rw [e]; clear e)
  all_goals first
   | (refine dec11 ?_; (try rw [hs]); (try rw [hw]); (try clear es); (try cases sr) <;> (try simp only [castL_self, eq_self, reduceCtorEq, and_true, and_false, true_and, false_and, or_false, false_or, not_false_eq_true, not_true_eq_false] at *) <;> omega)
   | (refine dec0 ?_; (try rw [hs]); (try rw [hw]); (try clear es); (try cases sr) <;> (try simp only [castL_self, eq_self, reduceCtorEq, and_true, and_false, true_and, false_and, or_false, false_or, not_false_eq_true, not_true_eq_false] at *) <;> omega)
 | false =>
  repeat' ((conv => whnf); first | (with_reducible first | (refine W1.o ?_; constructor) | rfl | exact castL_self _ _) | ((with_reducible refine V.same_t ?_); exact rfl) | ((with_reducible refine andB_room ?_ ?_ ?_); (· kernel_rfl); (· (first | omega | (simp only [lens] <;> omega)))) | ((with_reducible refine W2.o ?_; constructor); · (first | with_reducible assumption | omega | (simp only [lens] <;> omega))) | ((with_reducible refine W3.o ?_; constructor); · (first | with_reducible assumption | omega | (simp only [lens] <;> omega))) | ((with_reducible refine W4.o ?_; constructor); · (first | (with_reducible first | assumption | exact decide_eq_true rfl | exact sEq_self _) | ((with_reducible refine eqOK_i ?_); kernel_rfl) | exact wC | exact wA | exact wB | exact hw)) | ((with_reducible refine iteB_f ?_ ?_); · (first | (with_reducible first | assumption | exact decide_eq_true rfl | exact sEq_self _) | ((with_reducible refine eqOK_i ?_); kernel_rfl) | exact wC | exact wA | exact wB | exact hw)) | (with_reducible refine W5.o ?_; constructor) | ((with_reducible refine W6.o ?_; constructor) <;> intro hB))
  all_goals ((conv => whnf); (try dsimp only); (try simp only [Nat.succ_eq_add_one, Nat.le_eq, castL_self]); (try omega))
  all_goals (try (first | omega | (simp only [lens] <;> omega)))
  all_goals (rw [e]; clear e)
  all_goals first
   | (refine dec11 ?_; (try rw [hs]); (try rw [hw]); (try clear es); (try cases sr) <;> (try simp only [castL_self, eq_self, reduceCtorEq, and_true, and_false, true_and, false_and, or_false, false_or, not_false_eq_true, not_true_eq_false] at *) <;> omega)
   | (refine dec0 ?_; (try rw [hs]); (try rw [hw]); (try clear es); (try cases sr) <;> (try simp only [castL_self, eq_self, reduceCtorEq, and_true, and_false, true_and, false_and, or_false, false_or, not_false_eq_true, not_true_eq_false] at *) <;> omega)
theorem check_m (n : Nat) (wC : cmW C = true) (wA : opW A = true) (wB : opW B = true) (h1 : 0 ≤ cl) (h2 : 0 ≤ nm) (h3 : 0 ≤ rv) : PureAt Try.prog 11 [(.agg [.int .i64 (Int.negSucc n), .int .u64 cl, .int .u64 nm, .bool sr, .lst cmT C false, .lst opT A false, .lst opT B false, .int .u64 rv])] (.int .i64 (chE (Int.negSucc n) cl nm sr C A B rv)) := by
 have e := chE_eq (Int.negSucc n) cl nm rv sr C A B
 have lC := ((cmW_iff C).1 wC).1
 have lA := ((opW_iff A).1 wA).1
 have lB := ((opW_iff B).1 wB).1
 have hk : Int.negSucc n < 0 := Int.negSucc_lt_zero n
 refine pure_of_W0 (tab := tabZ) (fuel := 4) (d := 6) tabZ_ok ?_
 cases hw : wrB (Int.negSucc n) A B with
 | true =>
  repeat' ((conv => whnf); first | (with_reducible first | (refine W1.o ?_; constructor) | rfl | exact castL_self _ _) | ((with_reducible refine V.same_t ?_); exact rfl) | ((with_reducible refine andB_room ?_ ?_ ?_); (· kernel_rfl); (· (first | omega | (simp only [lens] <;> omega)))) | ((with_reducible refine W2.o ?_; constructor); · (first | with_reducible assumption | omega | (simp only [lens] <;> omega))) | ((with_reducible refine W3.o ?_; constructor); · (first | with_reducible assumption | omega | (simp only [lens] <;> omega))) | ((with_reducible refine W4.o ?_; constructor); · (first | (with_reducible first | assumption | exact decide_eq_true rfl | exact sEq_self _) | ((with_reducible refine eqOK_i ?_); kernel_rfl) | exact wC | exact wA | exact wB | exact hw)) | ((with_reducible refine iteB_f ?_ ?_); · (first | (with_reducible first | assumption | exact decide_eq_true rfl | exact sEq_self _) | ((with_reducible refine eqOK_i ?_); kernel_rfl) | exact wC | exact wA | exact wB | exact hw)) | (with_reducible refine W5.o ?_; constructor) | ((with_reducible refine W6.o ?_; constructor) <;> intro hB))
  all_goals ((conv => whnf); (try dsimp only); (try simp only [Nat.succ_eq_add_one, Nat.le_eq, castL_self]); (try omega))
  all_goals (try (first | omega | (simp only [lens] <;> omega)))
  all_goals (rw [e]; clear e)
  all_goals first
   | (refine dec11 ?_; (try rw [hs]); (try rw [hw]); (try clear es); (try cases sr) <;> (try simp only [castL_self, eq_self, reduceCtorEq, and_true, and_false, true_and, false_and, or_false, false_or, not_false_eq_true, not_true_eq_false] at *) <;> omega)
   | (refine dec0 ?_; (try rw [hs]); (try rw [hw]); (try clear es); (try cases sr) <;> (try simp only [castL_self, eq_self, reduceCtorEq, and_true, and_false, true_and, false_and, or_false, false_or, not_false_eq_true, not_true_eq_false] at *) <;> omega)
 | false =>
  repeat' ((conv => whnf); first | (with_reducible first | (refine W1.o ?_; constructor) | rfl | exact castL_self _ _) | ((with_reducible refine V.same_t ?_); exact rfl) | ((with_reducible refine andB_room ?_ ?_ ?_); (· kernel_rfl); (· (first | omega | (simp only [lens] <;> omega)))) | ((with_reducible refine W2.o ?_; constructor); · (first | with_reducible assumption | omega | (simp only [lens] <;> omega))) | ((with_reducible refine W3.o ?_; constructor); · (first | with_reducible assumption | omega | (simp only [lens] <;> omega))) | ((with_reducible refine W4.o ?_; constructor); · (first | (with_reducible first | assumption | exact decide_eq_true rfl | exact sEq_self _) | ((with_reducible refine eqOK_i ?_); kernel_rfl) | exact wC | exact wA | exact wB | exact hw)) | ((with_reducible refine iteB_f ?_ ?_); · (first | (with_reducible first | assumption | exact decide_eq_true rfl | exact sEq_self _) | ((with_reducible refine eqOK_i ?_); kernel_rfl) | exact wC | exact wA | exact wB | exact hw)) | (with_reducible refine W5.o ?_; constructor) | ((with_reducible refine W6.o ?_; constructor) <;> intro hB))
  all_goals ((conv => whnf); (try dsimp only); (try simp only [Nat.succ_eq_add_one, Nat.le_eq, castL_self]); (try omega))
  all_goals (try (first | omega | (simp only [lens] <;> omega)))
  all_goals (rw [e]; clear e)
  all_goals first
   | (refine dec11 ?_; (try rw [hs]); (try rw [hw]); (try clear es); (try cases sr) <;> (try simp only [castL_self, eq_self, reduceCtorEq, and_true, and_false, true_and, false_and, or_false, false_or, not_false_eq_true, not_true_eq_false] at *) <;> omega)
   | (refine dec0 ?_; (try rw [hs]); (try rw [hw]); (try clear es); (try cases sr) <;> (try simp only [castL_self, eq_self, reduceCtorEq, and_true, and_false, true_and, false_and, or_false, false_or, not_false_eq_true, not_true_eq_false] at *) <;> omega)
end
end Go.Proofs.Ytaloolcabmfjbaa
end
