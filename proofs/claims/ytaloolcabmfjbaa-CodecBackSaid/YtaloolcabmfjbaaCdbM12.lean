/-
  Texts of this claim, one behind the other: CdChk CdChk2. Each says its own conditions.
-/
import Derived.Test.YtaloolcabmfjbaaCdbM11

set_option linter.unusedVariables false
set_option linter.unusedSimpArgs false
set_option linter.unusedSectionVars false
section
namespace Go.Proofs.Ytaloolcabmfjbaa
open Go.Sym
set_option linter.unusedVariables false
set_option linter.unusedSimpArgs false
set_option maxRecDepth 100000
set_option maxHeartbeats 4000000
noncomputable def opIF (args : List V) : Option (List Bool × V) := match args with
 | [l, .fn g [] []] => (match ofLst opT l with
   | some L => bif Nat.beq g 42 then some ([opW L], .int .i64 (ixI chgO L)) else some ([Nat.beq g 79, opW L], .int .i64 (ixI badO L))
   | none => none)
 | _ => none
theorem opIF_ok (args : List V) (c : List Bool) (v : V) (h : opIF args = some (c, v)) (hc : allB c) : PureAt Try.prog 84 args v := by
 unfold opIF at h
 split at h
 ·split at h
  ·rename_i l g q L hl
   cases hg : Nat.beq g 42 with
   | true =>
    rw [hg] at h
    cases h
    rw [Nat.eq_of_beq_eq_true hg]
    exact PureAt.lst0 (chg_ix L hc.1) hl
   | false =>
    rw [hg] at h
    cases h
    rw [Nat.eq_of_beq_eq_true hc.1]
    exact PureAt.lst0 (bdo_ix L hc.2.1) hl
  ·cases h
 ·cases h
noncomputable def cmIF (args : List V) : Option (List Bool × V) := match args with
 | [l, .fn g [] []] => (match ofLst cmT l with
   | some L => some ([Nat.beq g 100, cmW L], .int .i64 (ixI badC L))
   | none => none)
 | _ => none
theorem cmIF_ok (args : List V) (c : List Bool) (v : V) (h : cmIF args = some (c, v)) (hc : allB c) : PureAt Try.prog 103 args v := by
 unfold cmIF at h
 split at h
 ·split at h
  ·rename_i l g q L hl
   cases h
   rw [Nat.eq_of_beq_eq_true hc.1]
   exact PureAt.lst0 (bdc_ix L hc.2.1) hl
  ·cases h
 ·cases h
noncomputable def tabX : Tab := oneTab 84 opIF (oneTab 103 cmIF tabM2)
theorem tabX_ok : TabOK Try.prog tabX := oneTab_ok opIF_ok (oneTab_ok cmIF_ok tabM2_ok)
theorem le_ix {e : List Ty} (p : rowDen e → Bool) (L : List (rowDen e)) : leI 0 (ixI p L) = anyB p L := by
 rw [leI_eq]
 rcases ix_in p L with ⟨a, b, c⟩ | ⟨a, b, c⟩
 ·rw [a, b]; rfl
 ·rw [a, b]; exact decide_eq_true (by omega)
abbrev RqT : Type := Int × Int × Int × Bool × List CmQ × List OpQ × List OpQ × Int
abbrev rqG (q : RqT) : V := .agg [.int .i64 q.1, .int .u64 q.2.1, .int .u64 q.2.2.1, .bool q.2.2.2.1, .lst cmT q.2.2.2.2.1 false, .lst opT q.2.2.2.2.2.1 false, .lst opT q.2.2.2.2.2.2.1 false, .int .u64 q.2.2.2.2.2.2.2]
noncomputable def wrB : Int → List OpQ → List OpQ → Bool := hide fun k A B => decide (k = 1) || (decide (k = 0) && (anyB chgO A || anyB chgO B))
theorem wrB_eq (k : Int) (A B : List OpQ) : wrB k A B = (decide (k = 1) || (decide (k = 0) && (anyB chgO A || anyB chgO B))) := by unfold wrB; rw [hide_eq]
section
variable (k cl nm rv : Int) (sr : Bool) (C : List CmQ) (A B : List OpQ)
theorem writes_at (wA : opW A = true) (wB : opW B = true) : PureAt Try.prog 13 [(.agg [.int .i64 k, .int .u64 cl, .int .u64 nm, .bool sr, .lst cmT C false, .lst opT A false, .lst opT B false, .int .u64 rv])] (.bool (wrB k A B)) := by
 have ia := ix_in chgO A
 have ib := ix_in chgO B
 have e := wrB_eq k A B
 refine pure_of_W0 (tab := tabX) (fuel := 4) (d := 6) tabX_ok ?_
 rcases ia with ⟨a1, a2, a3⟩ | ⟨a1, a2, a3⟩ <;> rcases ib with ⟨b1, b2, b3⟩ | ⟨b1, b2, b3⟩
 all_goals
  repeat' ((conv => whnf); first | (with_reducible first | (refine W1.o ?_; constructor) | rfl | exact castL_self _ _) | ((with_reducible refine V.same_t ?_); exact rfl) | ((with_reducible refine andB_room ?_ ?_ ?_); (· kernel_rfl); (· (first | omega | (simp only [lens] <;> omega)))) | ((with_reducible refine W2.o ?_; constructor); · (first | (with_reducible assumption) | (first | omega | (simp only [lens] <;> omega)))) | ((with_reducible refine W3.o ?_; constructor); · (first | (with_reducible assumption) | (first | omega | (simp only [lens] <;> omega)))) | ((with_reducible refine W4.o ?_; constructor); · (first | (with_reducible first | assumption | exact decide_eq_true rfl | exact sEq_self _) | ((with_reducible refine eqOK_i ?_); kernel_rfl) | (first | (first | exact wA | exact wB)))) | ((with_reducible refine iteB_f ?_ ?_); · (first | (with_reducible first | assumption | exact decide_eq_true rfl | exact sEq_self _) | ((with_reducible refine eqOK_i ?_); kernel_rfl) | (first | (first | exact wA | exact wB)))) | (with_reducible refine W5.o ?_; constructor) | ((with_reducible refine W6.o ?_; constructor) <;> intro hB))
  all_goals ((conv => whnf); (try dsimp only); (try simp only [Nat.succ_eq_add_one, Nat.le_eq, castL_self]); (try omega))
  all_goals (try (first | omega | (simp only [lens] <;> omega)))
  all_goals (rw [e, a2, b2]; refine congrArg V.bool ?_; clear e wA wB a1 a3 b1 b3)
  all_goals first
   | (simp [le_ix, *]; done)
   | trace_state
end
noncomputable def hcE : List CmQ → Int := hide fun C => if 4 < C.length then 3 else if anyB badC C = true then 11 else 0
theorem hcE_eq (C : List CmQ) : hcE C = if 4 < C.length then 3 else if anyB badC C = true then 11 else 0 := by unfold hcE; rw [hide_eq]
theorem hcheck_at (C : List CmQ) (wC : cmW C = true) : PureAt Try.prog 81 [.lst cmT C false] (.int .i64 (hcE C)) := by
 have ic := ix_in badC C
 have e := hcE_eq C
 have wl := ((cmW_iff C).1 wC).1
 refine pure_of_W0 (tab := tabX) (fuel := 4) (d := 6) tabX_ok ?_
 rcases ic with ⟨c1, c2, c3⟩ | ⟨c1, c2, c3⟩ <;> by_cases hl : 4 < C.length
 all_goals
  repeat' ((conv => whnf); first | (with_reducible first | (refine W1.o ?_; constructor) | rfl | exact castL_self _ _) | ((with_reducible refine V.same_t ?_); exact rfl) | ((with_reducible refine andB_room ?_ ?_ ?_); (· kernel_rfl); (· (first | omega | (simp only [lens] <;> omega)))) | ((with_reducible refine W2.o ?_; constructor); · (first | (with_reducible assumption) | (first | omega | (simp only [lens] <;> omega)))) | ((with_reducible refine W3.o ?_; constructor); · (first | (with_reducible assumption) | (first | omega | (simp only [lens] <;> omega)))) | ((with_reducible refine W4.o ?_; constructor); · (first | (with_reducible first | assumption | exact decide_eq_true rfl | exact sEq_self _) | ((with_reducible refine eqOK_i ?_); kernel_rfl) | (first | (exact wC)))) | ((with_reducible refine iteB_f ?_ ?_); · (first | (with_reducible first | assumption | exact decide_eq_true rfl | exact sEq_self _) | ((with_reducible refine eqOK_i ?_); kernel_rfl) | (first | (exact wC)))) | (with_reducible refine W5.o ?_; constructor) | ((with_reducible refine W6.o ?_; constructor) <;> intro hB))
  all_goals ((conv => whnf); (try dsimp only); (try simp only [Nat.succ_eq_add_one, Nat.le_eq, castL_self]); (try omega))
  all_goals (try (first | omega | (simp only [lens] <;> omega)))
  all_goals first
   | (rw [e]; simp [hl, c2]; done)
   | trace_state
noncomputable def hcF (args : List V) : Option (List Bool × V) := match args with
 | [l] => (match ofLst cmT l with
   | some C => some ([cmW C], .int .i64 (hcE C))
   | none => none)
 | _ => none
theorem hcF_is {g : FuncId} (hg : ∀ C, cmW C = true → PureAt Try.prog g [.lst cmT C false] (.int .i64 (hcE C))) (args : List V) (c : List Bool) (v : V) (h : hcF args = some (c, v)) (hc : allB c) : PureAt Try.prog g args v := by
 unfold hcF at h
 split at h
 ·split at h
  ·rename_i l q C hl
   cases h
   exact PureAt.lst0 (hg C hc.1) hl
  ·cases h
 ·cases h
noncomputable def tabY : Tab := oneTab 81 hcF tabX
theorem tabY_ok : TabOK Try.prog tabY := oneTab_ok (hcF_is hcheck_at) tabX_ok
theorem dec0 {p : Prop} [Decidable p] (h : p) : V.int .i64 0 = V.int .i64 (bif decide p then 0 else 11) := by rw [decide_eq_true h]; rfl
theorem dec11 {p : Prop} [Decidable p] (h : ¬ p) : V.int .i64 11 = V.int .i64 (bif decide p then 0 else 11) := by rw [decide_eq_false h]; rfl
noncomputable def stB : Int → List CmQ → List OpQ → List OpQ → Bool := hide fun k C A B => decide (k = 0 ∧ hcE C = 0 ∧ A.length ≤ 6 ∧ B.length ≤ 6 ∧ anyB badO A = false ∧ anyB badO B = false)
theorem stB_eq (k : Int) (C : List CmQ) (A B : List OpQ) : stB k C A B = decide (k = 0 ∧ hcE C = 0 ∧ A.length ≤ 6 ∧ B.length ≤ 6 ∧ anyB badO A = false ∧ anyB badO B = false) := by unfold stB; rw [hide_eq]
noncomputable def stE : Int → List CmQ → List OpQ → List OpQ → Int := hide fun k C A B => bif stB k C A B then 0 else 11
theorem stE_eq (k : Int) (C : List CmQ) (A B : List OpQ) : stE k C A B = bif stB k C A B then 0 else 11 := by unfold stE; rw [hide_eq]
section
variable (k cl nm rv : Int) (sr : Bool) (C : List CmQ) (A B : List OpQ)
theorem stcheck_at (wC : cmW C = true) (wA : opW A = true) (wB : opW B = true) : PureAt Try.prog 37 [(.agg [.int .i64 k, .int .u64 cl, .int .u64 nm, .bool sr, .lst cmT C false, .lst opT A false, .lst opT B false, .int .u64 rv])] (.int .i64 (stE k C A B)) := by
 have ia := ix_in badO A
 have ib := ix_in badO B
 have e : stE k C A B = bif decide (k = 0 ∧ hcE C = 0 ∧ A.length ≤ 6 ∧ B.length ≤ 6 ∧ anyB badO A = false ∧ anyB badO B = false) then 0 else 11 := by rw [stE_eq, stB_eq]
 refine pure_of_W0 (tab := tabY) (fuel := 4) (d := 6) tabY_ok ?_
 rcases ia with ⟨a1, a2, a3⟩ | ⟨a1, a2, a3⟩ <;> rcases ib with ⟨b1, b2, b3⟩ | ⟨b1, b2, b3⟩
 all_goals
  repeat' ((conv => whnf); first | (with_reducible first | (refine W1.o ?_; constructor) | rfl | exact castL_self _ _) | ((with_reducible refine V.same_t ?_); exact rfl) | ((with_reducible refine andB_room ?_ ?_ ?_); (· kernel_rfl); (· (first | omega | (simp only [lens] <;> omega)))) | ((with_reducible refine W2.o ?_; constructor); · (first | (with_reducible assumption) | (first | omega | (simp only [lens] <;> omega)))) | ((with_reducible refine W3.o ?_; constructor); · (first | (with_reducible assumption) | (first | omega | (simp only [lens] <;> omega)))) | ((with_reducible refine W4.o ?_; constructor); · (first | (with_reducible first | assumption | exact decide_eq_true rfl | exact sEq_self _) | ((with_reducible refine eqOK_i ?_); kernel_rfl) | (first | (first | exact wC | exact wA | exact wB)))) | ((with_reducible refine iteB_f ?_ ?_); · (first | (with_reducible first | assumption | exact decide_eq_true rfl | exact sEq_self _) | ((with_reducible refine eqOK_i ?_); kernel_rfl) | (first | (first | exact wC | exact wA | exact wB)))) | (with_reducible refine W5.o ?_; constructor) | ((with_reducible refine W6.o ?_; constructor) <;> intro hB))
  all_goals ((conv => whnf); (try dsimp only); (try simp only [Nat.succ_eq_add_one, Nat.le_eq, castL_self]); (try omega))
  all_goals (try (first | omega | (simp only [lens] <;> omega)))
  all_goals (rw [e, a2, b2]; clear e wA wB wC a1 a3 b1 b3)
  all_goals first
   | (simp [*]; done)
   | (refine dec11 ?_; (try simp only [castL_self, eq_self, reduceCtorEq, and_true, and_false, true_and, false_and, not_false_eq_true, not_true_eq_false] at *) <;> omega)
   | (refine dec0 ?_; (try simp only [castL_self, eq_self, reduceCtorEq, and_true, and_false, true_and, false_and, not_false_eq_true, not_true_eq_false] at *) <;> omega)
   | trace_state
end
end Go.Proofs.Ytaloolcabmfjbaa
end

section
namespace Go.Proofs.Ytaloolcabmfjbaa
open Go.Sym
set_option linter.unusedVariables false
set_option linter.unusedSimpArgs false
set_option maxRecDepth 100000
set_option maxHeartbeats 4000000
theorem LRel.cons_of {ρ : Env} {a b : V} {l m : List V} (h : ∀ X, VRel ρ a X → VRel ρ b X) (k : ∀ W, LRel ρ l W → LRel ρ m W) : ∀ W, LRel ρ (a :: l) W → LRel ρ (b :: m) W := by
 rintro W ⟨x, Y, rfl, h1, h2⟩
 exact ⟨x, Y, rfl, h _ h1, k _ h2⟩
theorem agg_of {ρ : Env} {l m : List V} (k : ∀ W, LRel ρ l W → LRel ρ m W) : ∀ X, VRel ρ (.agg l) X → VRel ρ (.agg m) X := by
 intro X h
 simp only [VRel] at h ⊢
 obtain ⟨A, rfl, h⟩ := h
 exact ⟨A, rfl, k _ h⟩
abbrev RqF : Type := Int → Int → Int → Bool → List CmQ → List OpQ → List OpQ → Int → List Bool × V
noncomputable def rqF (f : RqF) (args : List V) : Option (List Bool × V) := match args with
 | [.agg [.int .i64 k, .int .u64 cl, .int .u64 nm, .bool sr, c, a, b, .int .u64 rv]] => (match ofLst cmT c, ofLst opT a, ofLst opT b with
   | some C, some A, some B => some (f k cl nm sr C A B rv)
   | _, _, _ => none)
 | _ => none
theorem rqF_ok {P : Program} {g : FuncId} {f : RqF} (hf : ∀ k cl nm sr C A B rv, allB (f k cl nm sr C A B rv).1 → PureAt P g [(.agg [.int .i64 k, .int .u64 cl, .int .u64 nm, .bool sr, .lst cmT C false, .lst opT A false, .lst opT B false, .int .u64 rv])] (f k cl nm sr C A B rv).2) (args : List V) (c : List Bool) (v : V) (h : rqF f args = some (c, v)) (hc : allB c) : PureAt P g args v := by
 unfold rqF at h
 split at h
 ·split at h
  ·rename_i k cl nm sr c a b rv q1 q2 q3 C A B h1 h2 h3
   have e : f k cl nm sr C A B rv = (_, _) := Option.some.inj h
   have hg := hf k cl nm sr C A B rv (by rw [e]; exact hc)
   rw [e] at hg
   refine hg.weak fun φ X hX => ?_
   exact LRel.cons_of (agg_of (LRel.cons_of (fun _ h => h) (LRel.cons_of (fun _ h => h) (LRel.cons_of (fun _ h => h) (LRel.cons_of (fun _ h => h) (LRel.cons_of (fun _ h => ofLst_rel h1 h) (LRel.cons_of (fun _ h => ofLst_rel h2 h) (LRel.cons_of (fun _ h => ofLst_rel h3 h) fun _ h => h)))))))) (fun _ h => h) X hX
  ·cases h
 ·cases h
noncomputable def wrF : RqF := fun k cl nm sr C A B rv => ([opW A, opW B], .bool (wrB k A B))
noncomputable def stF : RqF := fun k cl nm sr C A B rv => ([cmW C, opW A, opW B], .int .i64 (stE k C A B))
noncomputable def tabZ : Tab := oneTab 13 (rqF wrF) (oneTab 37 (rqF stF) noTab)
theorem tabZ_ok : TabOK Try.prog tabZ := oneTab_ok (rqF_ok fun k cl nm sr C A B rv h => writes_at k cl nm rv sr C A B h.1 h.2.1) (oneTab_ok (rqF_ok fun k cl nm sr C A B rv h => stcheck_at k cl nm rv sr C A B h.1 h.2.1 h.2.2.1) noTab_ok)
section
variable (k cl nm rv : Int) (sr : Bool) (C : List CmQ) (A B : List OpQ)
noncomputable def chB : Int → Int → Int → Bool → List CmQ → List OpQ → List OpQ → Int → Bool := hide fun k cl nm sr C A B rv => decide (((k = 0 ∧ stB k C A B = true ∧ rv = 0) ∨ (k = 1 ∧ (C.length = 0 ∧ A.length = 0 ∧ B.length = 0 ∧ sr = false) ∧ 1 ≤ rv ∧ rv ≤ 1099511627776) ∨ (k = 2 ∧ (C.length = 0 ∧ A.length = 0 ∧ B.length = 0 ∧ sr = false) ∧ rv ≤ 1099511627776) ∨ (k = 3 ∧ (C.length = 0 ∧ A.length = 0 ∧ B.length = 0 ∧ sr = false) ∧ rv = 0)) ∧ ((wrB k A B = true ∧ sr = false ∧ 1 ≤ cl ∧ cl < 281474976710656 ∧ 1 ≤ nm ∧ nm ≤ 1099511627776) ∨ (wrB k A B = false ∧ cl = 0 ∧ nm = 0)))
theorem chB_eq : chB k cl nm sr C A B rv = decide (((k = 0 ∧ stB k C A B = true ∧ rv = 0) ∨ (k = 1 ∧ (C.length = 0 ∧ A.length = 0 ∧ B.length = 0 ∧ sr = false) ∧ 1 ≤ rv ∧ rv ≤ 1099511627776) ∨ (k = 2 ∧ (C.length = 0 ∧ A.length = 0 ∧ B.length = 0 ∧ sr = false) ∧ rv ≤ 1099511627776) ∨ (k = 3 ∧ (C.length = 0 ∧ A.length = 0 ∧ B.length = 0 ∧ sr = false) ∧ rv = 0)) ∧ ((wrB k A B = true ∧ sr = false ∧ 1 ≤ cl ∧ cl < 281474976710656 ∧ 1 ≤ nm ∧ nm ≤ 1099511627776) ∨ (wrB k A B = false ∧ cl = 0 ∧ nm = 0))) := by unfold chB; rw [hide_eq]
noncomputable def chE : Int → Int → Int → Bool → List CmQ → List OpQ → List OpQ → Int → Int := hide fun k cl nm sr C A B rv => bif chB k cl nm sr C A B rv then 0 else 11
theorem chE_eq : chE k cl nm sr C A B rv = bif decide (((k = 0 ∧ stB k C A B = true ∧ rv = 0) ∨ (k = 1 ∧ (C.length = 0 ∧ A.length = 0 ∧ B.length = 0 ∧ sr = false) ∧ 1 ≤ rv ∧ rv ≤ 1099511627776) ∨ (k = 2 ∧ (C.length = 0 ∧ A.length = 0 ∧ B.length = 0 ∧ sr = false) ∧ rv ≤ 1099511627776) ∨ (k = 3 ∧ (C.length = 0 ∧ A.length = 0 ∧ B.length = 0 ∧ sr = false) ∧ rv = 0)) ∧ ((wrB k A B = true ∧ sr = false ∧ 1 ≤ cl ∧ cl < 281474976710656 ∧ 1 ≤ nm ∧ nm ≤ 1099511627776) ∨ (wrB k A B = false ∧ cl = 0 ∧ nm = 0))) then 0 else 11 := by unfold chE; rw [hide_eq, chB_eq]
theorem check_0 (wC : cmW C = true) (wA : opW A = true) (wB : opW B = true) (h1 : 0 ≤ cl) (h2 : 0 ≤ nm) (h3 : 0 ≤ rv) : PureAt Try.prog 11 [(.agg [.int .i64 0, .int .u64 cl, .int .u64 nm, .bool sr, .lst cmT C false, .lst opT A false, .lst opT B false, .int .u64 rv])] (.int .i64 (chE 0 cl nm sr C A B rv)) := by
 have e := chE_eq 0 cl nm rv sr C A B
 have es := stE_eq 0 C A B
 have lC := ((cmW_iff C).1 wC).1
 have lA := ((opW_iff A).1 wA).1
 have lB := ((opW_iff B).1 wB).1
 refine pure_of_W0 (tab := tabZ) (fuel := 4) (d := 6) tabZ_ok ?_
 cases hs : stB 0 C A B with
 | true =>
  have es : stE 0 C A B = 0 := by rw [es, hs]; rfl
  cases hw : wrB 0 A B with
  | true =>
   repeat' ((conv => whnf); first | (with_reducible first | (refine W1.o ?_; constructor) | rfl | exact castL_self _ _) | ((with_reducible refine V.same_t ?_); exact rfl) | ((with_reducible refine andB_room ?_ ?_ ?_); (· kernel_rfl); (· (first | omega | (simp only [lens] <;> omega)))) | ((with_reducible refine W2.o ?_; constructor); · (first | (with_reducible assumption) | (first | omega | (simp only [lens] <;> omega)))) | ((with_reducible refine W3.o ?_; constructor); · (first | (with_reducible assumption) | (first | omega | (simp only [lens] <;> omega)))) | ((with_reducible refine W4.o ?_; constructor); · (first | (with_reducible first | assumption | exact decide_eq_true rfl | exact sEq_self _) | ((with_reducible refine eqOK_i ?_); kernel_rfl) | (first | (first | exact wC | exact wA | exact wB | exact hw)))) | ((with_reducible refine iteB_f ?_ ?_); · (first | (with_reducible first | assumption | exact decide_eq_true rfl | exact sEq_self _) | ((with_reducible refine eqOK_i ?_); kernel_rfl) | (first | (first | exact wC | exact wA | exact wB | exact hw)))) | (with_reducible refine W5.o ?_; constructor) | ((with_reducible refine W6.o ?_; constructor) <;> intro hB))
   all_goals ((conv => whnf); (try dsimp only); (try simp only [Nat.succ_eq_add_one, Nat.le_eq, castL_self]); (try omega))
   all_goals (try (first | omega | (simp only [lens] <;> omega)))
   all_goals (rw [e]; clear e)
   all_goals first
    | (refine dec11 ?_; (try rw [hs]); (try rw [hw]); (try clear es); (try cases sr) <;> (try simp only [castL_self, eq_self, reduceCtorEq, and_true, and_false, true_and, false_and, or_false, false_or, not_false_eq_true, not_true_eq_false] at *) <;> omega)
    | (refine dec0 ?_; (try rw [hs]); (try rw [hw]); (try clear es); (try cases sr) <;> (try simp only [castL_self, eq_self, reduceCtorEq, and_true, and_false, true_and, false_and, or_false, false_or, not_false_eq_true, not_true_eq_false] at *) <;> omega)
    | trace_state
  | false =>
   repeat' ((conv => whnf); first | (with_reducible first | (refine W1.o ?_; constructor) | rfl | exact castL_self _ _) | ((with_reducible refine V.same_t ?_); exact rfl) | ((with_reducible refine andB_room ?_ ?_ ?_); (· kernel_rfl); (· (first | omega | (simp only [lens] <;> omega)))) | ((with_reducible refine W2.o ?_; constructor); · (first | (with_reducible assumption) | (first | omega | (simp only [lens] <;> omega)))) | ((with_reducible refine W3.o ?_; constructor); · (first | (with_reducible assumption) | (first | omega | (simp only [lens] <;> omega)))) | ((with_reducible refine W4.o ?_; constructor); · (first | (with_reducible first | assumption | exact decide_eq_true rfl | exact sEq_self _) | ((with_reducible refine eqOK_i ?_); kernel_rfl) | (first | (first | exact wC | exact wA | exact wB | exact hw)))) | ((with_reducible refine iteB_f ?_ ?_); · (first | (with_reducible first | assumption | exact decide_eq_true rfl | exact sEq_self _) | ((with_reducible refine eqOK_i ?_); kernel_rfl) | (first | (first | exact wC | exact wA | exact wB | exact hw)))) | (with_reducible refine W5.o ?_; constructor) | ((with_reducible refine W6.o ?_; constructor) <;> intro hB))
   all_goals ((conv => whnf); (try dsimp only); (try simp only [Nat.succ_eq_add_one, Nat.le_eq, castL_self]); (try omega))
   all_goals (try (first | omega | (simp only [lens] <;> omega)))
   all_goals (rw [e]; clear e)
   all_goals first
    | (refine dec11 ?_; (try rw [hs]); (try rw [hw]); (try clear es); (try cases sr) <;> (try simp only [castL_self, eq_self, reduceCtorEq, and_true, and_false, true_and, false_and, or_false, false_or, not_false_eq_true, not_true_eq_false] at *) <;> omega)
    | (refine dec0 ?_; (try rw [hs]); (try rw [hw]); (try clear es); (try cases sr) <;> (try simp only [castL_self, eq_self, reduceCtorEq, and_true, and_false, true_and, false_and, or_false, false_or, not_false_eq_true, not_true_eq_false] at *) <;> omega)
    | trace_state
 | false =>
  have es : stE 0 C A B = 11 := by rw [es, hs]; rfl
  cases hw : wrB 0 A B with
  | true =>
   repeat' ((conv => whnf); first | (with_reducible first | (refine W1.o ?_; constructor) | rfl | exact castL_self _ _) | ((with_reducible refine V.same_t ?_); exact rfl) | ((with_reducible refine andB_room ?_ ?_ ?_); (· kernel_rfl); (· (first | omega | (simp only [lens] <;> omega)))) | ((with_reducible refine W2.o ?_; constructor); · (first | (with_reducible assumption) | (first | omega | (simp only [lens] <;> omega)))) | ((with_reducible refine W3.o ?_; constructor); · (first | (with_reducible assumption) | (first | omega | (simp only [lens] <;> omega)))) | ((with_reducible refine W4.o ?_; constructor); · (first | (with_reducible first | assumption | exact decide_eq_true rfl | exact sEq_self _) | ((with_reducible refine eqOK_i ?_); kernel_rfl) | (first | (first | exact wC | exact wA | exact wB | exact hw)))) | ((with_reducible refine iteB_f ?_ ?_); · (first | (with_reducible first | assumption | exact decide_eq_true rfl | exact sEq_self _) | ((with_reducible refine eqOK_i ?_); kernel_rfl) | (first | (first | exact wC | exact wA | exact wB | exact hw)))) | (with_reducible refine W5.o ?_; constructor) | ((with_reducible refine W6.o ?_; constructor) <;> intro hB))
   all_goals ((conv => whnf); (try dsimp only); (try simp only [Nat.succ_eq_add_one, Nat.le_eq, castL_self]); (try omega))
   all_goals (try (first | omega | (simp only [lens] <;> omega)))
   all_goals (rw [e]; clear e)
   all_goals first
    | (refine dec11 ?_; (try rw [hs]); (try rw [hw]); (try clear es); (try cases sr) <;> (try simp only [castL_self, eq_self, reduceCtorEq, and_true, and_false, true_and, false_and, or_false, false_or, not_false_eq_true, not_true_eq_false] at *) <;> omega)
    | (refine dec0 ?_; (try rw [hs]); (try rw [hw]); (try clear es); (try cases sr) <;> (try simp only [castL_self, eq_self, reduceCtorEq, and_true, and_false, true_and, false_and, or_false, false_or, not_false_eq_true, not_true_eq_false] at *) <;> omega)
    | trace_state
  | false =>
   repeat' ((conv => whnf); first | (with_reducible first | (refine W1.o ?_; constructor) | rfl | exact castL_self _ _) | ((with_reducible refine V.same_t ?_); exact rfl) | ((with_reducible refine andB_room ?_ ?_ ?_); (· kernel_rfl); (· (first | omega | (simp only [lens] <;> omega)))) | ((with_reducible refine W2.o ?_; constructor); · (first | (with_reducible assumption) | (first | omega | (simp only [lens] <;> omega)))) | ((with_reducible refine W3.o ?_; constructor); · (first | (with_reducible assumption) | (first | omega | (simp only [lens] <;> omega)))) | ((with_reducible refine W4.o ?_; constructor); · (first | (with_reducible first | assumption | exact decide_eq_true rfl | exact sEq_self _) | ((with_reducible refine eqOK_i ?_); kernel_rfl) | (first | (first | exact wC | exact wA | exact wB | exact hw)))) | ((with_reducible refine iteB_f ?_ ?_); · (first | (with_reducible first | assumption | exact decide_eq_true rfl | exact sEq_self _) | ((with_reducible refine eqOK_i ?_); kernel_rfl) | (first | (first | exact wC | exact wA | exact wB | exact hw)))) | (with_reducible refine W5.o ?_; constructor) | ((with_reducible refine W6.o ?_; constructor) <;> intro hB))
   all_goals ((conv => whnf); (try dsimp only); (try simp only [Nat.succ_eq_add_one, Nat.le_eq, castL_self]); (try omega))
   all_goals (try (first | omega | (simp only [lens] <;> omega)))
   all_goals (rw [e]; clear e)
   all_goals first
    | (refine dec11 ?_; (try rw [hs]); (try rw [hw]); (try clear es); (try cases sr) <;> (try simp only [castL_self, eq_self, reduceCtorEq, and_true, and_false, true_and, false_and, or_false, false_or, not_false_eq_true, not_true_eq_false] at *) <;> omega)
    | (refine dec0 ?_; (try rw [hs]); (try rw [hw]); (try clear es); (try cases sr) <;> (try simp only [castL_self, eq_self, reduceCtorEq, and_true, and_false, true_and, false_and, or_false, false_or, not_false_eq_true, not_true_eq_false] at *) <;> omega)
    | trace_state
theorem check_1 (wC : cmW C = true) (wA : opW A = true) (wB : opW B = true) (h1 : 0 ≤ cl) (h2 : 0 ≤ nm) (h3 : 0 ≤ rv) : PureAt Try.prog 11 [(.agg [.int .i64 1, .int .u64 cl, .int .u64 nm, .bool sr, .lst cmT C false, .lst opT A false, .lst opT B false, .int .u64 rv])] (.int .i64 (chE 1 cl nm sr C A B rv)) := by
 have e := chE_eq 1 cl nm rv sr C A B
 have lC := ((cmW_iff C).1 wC).1
 have lA := ((opW_iff A).1 wA).1
 have lB := ((opW_iff B).1 wB).1
 refine pure_of_W0 (tab := tabZ) (fuel := 4) (d := 6) tabZ_ok ?_
 cases hw : wrB 1 A B with
 | true =>
  repeat' ((conv => whnf); first | (with_reducible first | (refine W1.o ?_; constructor) | rfl | exact castL_self _ _) | ((with_reducible refine V.same_t ?_); exact rfl) | ((with_reducible refine andB_room ?_ ?_ ?_); (· kernel_rfl); (· (first | omega | (simp only [lens] <;> omega)))) | ((with_reducible refine W2.o ?_; constructor); · (first | (with_reducible assumption) | (first | omega | (simp only [lens] <;> omega)))) | ((with_reducible refine W3.o ?_; constructor); · (first | (with_reducible assumption) | (first | omega | (simp only [lens] <;> omega)))) | ((with_reducible refine W4.o ?_; constructor); · (first | (with_reducible first | assumption | exact decide_eq_true rfl | exact sEq_self _) | ((with_reducible refine eqOK_i ?_); kernel_rfl) | (first | (first | exact wC | exact wA | exact wB | exact hw)))) | ((with_reducible refine iteB_f ?_ ?_); · (first | (with_reducible first | assumption | exact decide_eq_true rfl | exact sEq_self _) | ((with_reducible refine eqOK_i ?_); kernel_rfl) | (first | (first | exact wC | exact wA | exact wB | exact hw)))) | (with_reducible refine W5.o ?_; constructor) | ((with_reducible refine W6.o ?_; constructor) <;> intro hB))
  all_goals ((conv => whnf); (try dsimp only); (try simp only [Nat.succ_eq_add_one, Nat.le_eq, castL_self]); (try omega))
  all_goals (try (first | omega | (simp only [lens] <;> omega)))
  all_goals (rw [e]; clear e)
  all_goals first
   | (refine dec11 ?_; (try rw [hs]); (try rw [hw]); (try clear es); (try cases sr) <;> (try simp only [castL_self, eq_self, reduceCtorEq, and_true, and_false, true_and, false_and, or_false, false_or, not_false_eq_true, not_true_eq_false] at *) <;> omega)
   | (refine dec0 ?_; (try rw [hs]); (try rw [hw]); (try clear es); (try cases sr) <;> (try simp only [castL_self, eq_self, reduceCtorEq, and_true, and_false, true_and, false_and, or_false, false_or, not_false_eq_true, not_true_eq_false] at *) <;> omega)
   | trace_state
 | false =>
  repeat' ((conv => whnf); first | (with_reducible first | (refine W1.o ?_; constructor) | rfl | exact castL_self _ _) | ((with_reducible refine V.same_t ?_); exact rfl) | ((with_reducible refine andB_room ?_ ?_ ?_); (· kernel_rfl); (· (first | omega | (simp only [lens] <;> omega)))) | ((with_reducible refine W2.o ?_; constructor); · (first | (with_reducible assumption) | (first | omega | (simp only [lens] <;> omega)))) | ((with_reducible refine W3.o ?_; constructor); · (first | (with_reducible assumption) | (first | omega | (simp only [lens] <;> omega)))) | ((with_reducible refine W4.o ?_; constructor); · (first | (with_reducible first | assumption | exact decide_eq_true rfl | exact sEq_self _) | ((with_reducible refine eqOK_i ?_); kernel_rfl) | (first | (first | exact wC | exact wA | exact wB | exact hw)))) | ((with_reducible refine iteB_f ?_ ?_); · (first | (with_reducible first | assumption | exact decide_eq_true rfl | exact sEq_self _) | ((with_reducible refine eqOK_i ?_); kernel_rfl) | (first | (first | exact wC | exact wA | exact wB | exact hw)))) | (with_reducible refine W5.o ?_; constructor) | ((with_reducible refine W6.o ?_; constructor) <;> intro hB))
  all_goals ((conv => whnf); (try dsimp only); (try simp only [Nat.succ_eq_add_one, Nat.le_eq, castL_self]); (try omega))
  all_goals (try (first | omega | (simp only [lens] <;> omega)))
  all_goals (rw [e]; clear e)
  all_goals first
   | (refine dec11 ?_; (try rw [hs]); (try rw [hw]); (try clear es); (try cases sr) <;> (try simp only [castL_self, eq_self, reduceCtorEq, and_true, and_false, true_and, false_and, or_false, false_or, not_false_eq_true, not_true_eq_false] at *) <;> omega)
   | (refine dec0 ?_; (try rw [hs]); (try rw [hw]); (try clear es); (try cases sr) <;> (try simp only [castL_self, eq_self, reduceCtorEq, and_true, and_false, true_and, false_and, or_false, false_or, not_false_eq_true, not_true_eq_false] at *) <;> omega)
   | trace_state
theorem check_2 (wC : cmW C = true) (wA : opW A = true) (wB : opW B = true) (h1 : 0 ≤ cl) (h2 : 0 ≤ nm) (h3 : 0 ≤ rv) : PureAt Try.prog 11 [(.agg [.int .i64 2, .int .u64 cl, .int .u64 nm, .bool sr, .lst cmT C false, .lst opT A false, .lst opT B false, .int .u64 rv])] (.int .i64 (chE 2 cl nm sr C A B rv)) := by
 have e := chE_eq 2 cl nm rv sr C A B
 have lC := ((cmW_iff C).1 wC).1
 have lA := ((opW_iff A).1 wA).1
 have lB := ((opW_iff B).1 wB).1
 refine pure_of_W0 (tab := tabZ) (fuel := 4) (d := 6) tabZ_ok ?_
 cases hw : wrB 2 A B with
 | true =>
  repeat' ((conv => whnf); first | (with_reducible first | (refine W1.o ?_; constructor) | rfl | exact castL_self _ _) | ((with_reducible refine V.same_t ?_); exact rfl) | ((with_reducible refine andB_room ?_ ?_ ?_); (· kernel_rfl); (· (first | omega | (simp only [lens] <;> omega)))) | ((with_reducible refine W2.o ?_; constructor); · (first | (with_reducible assumption) | (first | omega | (simp only [lens] <;> omega)))) | ((with_reducible refine W3.o ?_; constructor); · (first | (with_reducible assumption) | (first | omega | (simp only [lens] <;> omega)))) | ((with_reducible refine W4.o ?_; constructor); · (first | (with_reducible first | assumption | exact decide_eq_true rfl | exact sEq_self _) | ((with_reducible refine eqOK_i ?_); kernel_rfl) | (first | (first | exact wC | exact wA | exact wB | exact hw)))) | ((with_reducible refine iteB_f ?_ ?_); · (first | (with_reducible first | assumption | exact decide_eq_true rfl | exact sEq_self _) | ((with_reducible refine eqOK_i ?_); kernel_rfl) | (first | (first | exact wC | exact wA | exact wB | exact hw)))) | (with_reducible refine W5.o ?_; constructor) | ((with_reducible refine W6.o ?_; constructor) <;> intro hB))
  all_goals ((conv => whnf); (try dsimp only); (try simp only [Nat.succ_eq_add_one, Nat.le_eq, castL_self]); (try omega))
  all_goals (try (first | omega | (simp only [lens] <;> omega)))
  all_goals (rw [e]; clear e)
  all_goals first
   | (refine dec11 ?_; (try rw [hs]); (try rw [hw]); (try clear es); (try cases sr) <;> (try simp only [castL_self, eq_self, reduceCtorEq, and_true, and_false, true_and, false_and, or_false, false_or, not_false_eq_true, not_true_eq_false] at *) <;> omega)
   | (refine dec0 ?_; (try rw [hs]); (try rw [hw]); (try clear es); (try cases sr) <;> (try simp only [castL_self, eq_self, reduceCtorEq, and_true, and_false, true_and, false_and, or_false, false_or, not_false_eq_true, not_true_eq_false] at *) <;> omega)
   | trace_state
 | false =>
  repeat' ((conv => whnf); first | (with_reducible first | (refine W1.o ?_; constructor) | rfl | exact castL_self _ _) | ((with_reducible refine V.same_t ?_); exact rfl) | ((with_reducible refine andB_room ?_ ?_ ?_); (· kernel_rfl); (· (first | omega | (simp only [lens] <;> omega)))) | ((with_reducible refine W2.o ?_; constructor); · (first | (with_reducible assumption) | (first | omega | (simp only [lens] <;> omega)))) | ((with_reducible refine W3.o ?_; constructor); · (first | (with_reducible assumption) | (first | omega | (simp only [lens] <;> omega)))) | ((with_reducible refine W4.o ?_; constructor); · (first | (with_reducible first | assumption | exact decide_eq_true rfl | exact sEq_self _) | ((with_reducible refine eqOK_i ?_); kernel_rfl) | (first | (first | exact wC | exact wA | exact wB | exact hw)))) | ((with_reducible refine iteB_f ?_ ?_); · (first | (with_reducible first | assumption | exact decide_eq_true rfl | exact sEq_self _) | ((with_reducible refine eqOK_i ?_); kernel_rfl) | (first | (first | exact wC | exact wA | exact wB | exact hw)))) | (with_reducible refine W5.o ?_; constructor) | ((with_reducible refine W6.o ?_; constructor) <;> intro hB))
  all_goals ((conv => whnf); (try dsimp only); (try simp only [Nat.succ_eq_add_one, Nat.le_eq, castL_self]); (try omega))
  all_goals (try (first | omega | (simp only [lens] <;> omega)))
  all_goals (rw [e]; clear e)
  all_goals first
   | (refine dec11 ?_; (try rw [hs]); (try rw [hw]); (try clear es); (try cases sr) <;> (try simp only [castL_self, eq_self, reduceCtorEq, and_true, and_false, true_and, false_and, or_false, false_or, not_false_eq_true, not_true_eq_false] at *) <;> omega)
   | (refine dec0 ?_; (try rw [hs]); (try rw [hw]); (try clear es); (try cases sr) <;> (try simp only [castL_self, eq_self, reduceCtorEq, and_true, and_false, true_and, false_and, or_false, false_or, not_false_eq_true, not_true_eq_false] at *) <;> omega)
   | trace_state
theorem check_3 (wC : cmW C = true) (wA : opW A = true) (wB : opW B = true) (h1 : 0 ≤ cl) (h2 : 0 ≤ nm) (h3 : 0 ≤ rv) : PureAt Try.prog 11 [(.agg [.int .i64 3, .int .u64 cl, .int .u64 nm, .bool sr, .lst cmT C false, .lst opT A false, .lst opT B false, .int .u64 rv])] (.int .i64 (chE 3 cl nm sr C A B rv)) := by
 have e := chE_eq 3 cl nm rv sr C A B
 have lC := ((cmW_iff C).1 wC).1
 have lA := ((opW_iff A).1 wA).1
 have lB := ((opW_iff B).1 wB).1
 refine pure_of_W0 (tab := tabZ) (fuel := 4) (d := 6) tabZ_ok ?_
 cases hw : wrB 3 A B with
 | true =>
  repeat' ((conv => whnf); first | (with_reducible first | (refine W1.o ?_; constructor) | rfl | exact castL_self _ _) | ((with_reducible refine V.same_t ?_); exact rfl) | ((with_reducible refine andB_room ?_ ?_ ?_); (· kernel_rfl); (· (first | omega | (simp only [lens] <;> omega)))) | ((with_reducible refine W2.o ?_; constructor); · (first | (with_reducible assumption) | (first | omega | (simp only [lens] <;> omega)))) | ((with_reducible refine W3.o ?_; constructor); · (first | (with_reducible assumption) | (first | omega | (simp only [lens] <;> omega)))) | ((with_reducible refine W4.o ?_; constructor); · (first | (with_reducible first | assumption | exact decide_eq_true rfl | exact sEq_self _) | ((with_reducible refine eqOK_i ?_); kernel_rfl) | (first | (first | exact wC | exact wA | exact wB | exact hw)))) | ((with_reducible refine iteB_f ?_ ?_); · (first | (with_reducible first | assumption | exact decide_eq_true rfl | exact sEq_self _) | ((with_reducible refine eqOK_i ?_); kernel_rfl) | (first | (first | exact wC | exact wA | exact wB | exact hw)))) | (with_reducible refine W5.o ?_; constructor) | ((with_reducible refine W6.o ?_; constructor) <;> intro hB))
  all_goals ((conv => whnf); (try dsimp only); (try simp only [Nat.succ_eq_add_one, Nat.le_eq, castL_self]); (try omega))
  all_goals (try (first | omega | (simp only [lens] <;> omega)))
  all_goals (rw [e]; clear e)
  all_goals first
   | (refine dec11 ?_; (try rw [hs]); (try rw [hw]); (try clear es); (try cases sr) <;> (try simp only [castL_self, eq_self, reduceCtorEq, and_true, and_false, true_and, false_and, or_false, false_or, not_false_eq_true, not_true_eq_false] at *) <;> omega)
   | (refine dec0 ?_; (try rw [hs]); (try rw [hw]); (try clear es); (try cases sr) <;> (try simp only [castL_self, eq_self, reduceCtorEq, and_true, and_false, true_and, false_and, or_false, false_or, not_false_eq_true, not_true_eq_false] at *) <;> omega)
   | trace_state
 | false =>
  repeat' ((conv => whnf); first | (with_reducible first | (refine W1.o ?_; constructor) | rfl | exact castL_self _ _) | ((with_reducible refine V.same_t ?_); exact rfl) | ((with_reducible refine andB_room ?_ ?_ ?_); (· kernel_rfl); (· (first | omega | (simp only [lens] <;> omega)))) | ((with_reducible refine W2.o ?_; constructor); · (first | (with_reducible assumption) | (first | omega | (simp only [lens] <;> omega)))) | ((with_reducible refine W3.o ?_; constructor); · (first | (with_reducible assumption) | (first | omega | (simp only [lens] <;> omega)))) | ((with_reducible refine W4.o ?_; constructor); · (first | (with_reducible first | assumption | exact decide_eq_true rfl | exact sEq_self _) | ((with_reducible refine eqOK_i ?_); kernel_rfl) | (first | (first | exact wC | exact wA | exact wB | exact hw)))) | ((with_reducible refine iteB_f ?_ ?_); · (first | (with_reducible first | assumption | exact decide_eq_true rfl | exact sEq_self _) | ((with_reducible refine eqOK_i ?_); kernel_rfl) | (first | (first | exact wC | exact wA | exact wB | exact hw)))) | (with_reducible refine W5.o ?_; constructor) | ((with_reducible refine W6.o ?_; constructor) <;> intro hB))
  all_goals ((conv => whnf); (try dsimp only); (try simp only [Nat.succ_eq_add_one, Nat.le_eq, castL_self]); (try omega))
  all_goals (try (first | omega | (simp only [lens] <;> omega)))
  all_goals (rw [e]; clear e)
  all_goals first
   | (refine dec11 ?_; (try rw [hs]); (try rw [hw]); (try clear es); (try cases sr) <;> (try simp only [castL_self, eq_self, reduceCtorEq, and_true, and_false, true_and, false_and, or_false, false_or, not_false_eq_true, not_true_eq_false] at *) <;> omega)
   | (refine dec0 ?_; (try rw [hs]); (try rw [hw]); (try clear es); (try cases sr) <;> (try simp only [castL_self, eq_self, reduceCtorEq, and_true, and_false, true_and, false_and, or_false, false_or, not_false_eq_true, not_true_eq_false] at *) <;> omega)
   | trace_state
theorem check_n (n : Nat) (wC : cmW C = true) (wA : opW A = true) (wB : opW B = true) (h1 : 0 ≤ cl) (h2 : 0 ≤ nm) (h3 : 0 ≤ rv) : PureAt Try.prog 11 [(.agg [.int .i64 (Int.ofNat (n + 4)), .int .u64 cl, .int .u64 nm, .bool sr, .lst cmT C false, .lst opT A false, .lst opT B false, .int .u64 rv])] (.int .i64 (chE (Int.ofNat (n + 4)) cl nm sr C A B rv)) := by
 have e := chE_eq (Int.ofNat (n + 4)) cl nm rv sr C A B
 have lC := ((cmW_iff C).1 wC).1
 have lA := ((opW_iff A).1 wA).1
 have lB := ((opW_iff B).1 wB).1
 have hk : 4 ≤ Int.ofNat (n + 4) := by simp only [Int.ofNat_eq_natCast]; omega
 refine pure_of_W0 (tab := tabZ) (fuel := 4) (d := 6) tabZ_ok ?_
 cases hw : wrB (Int.ofNat (n + 4)) A B with
 | true =>
  repeat' ((conv => whnf); first | (with_reducible first | (refine W1.o ?_; constructor) | rfl | exact castL_self _ _) | ((with_reducible refine V.same_t ?_); exact rfl) | ((with_reducible refine andB_room ?_ ?_ ?_); (· kernel_rfl); (· (first | omega | (simp only [lens] <;> omega)))) | ((with_reducible refine W2.o ?_; constructor); · (first | (with_reducible assumption) | (first | omega | (simp only [lens] <;> omega)))) | ((with_reducible refine W3.o ?_; constructor); · (first | (with_reducible assumption) | (first | omega | (simp only [lens] <;> omega)))) | ((with_reducible refine W4.o ?_; constructor); · (first | (with_reducible first | assumption | exact decide_eq_true rfl | exact sEq_self _) | ((with_reducible refine eqOK_i ?_); kernel_rfl) | (first | (first | exact wC | exact wA | exact wB | exact hw)))) | ((with_reducible refine iteB_f ?_ ?_); · (first | (with_reducible first | assumption | exact decide_eq_true rfl | exact sEq_self _) | ((with_reducible refine eqOK_i ?_); kernel_rfl) | (first | (first | exact wC | exact wA | exact wB | exact hw)))) | (with_reducible refine W5.o ?_; constructor) | ((with_reducible refine W6.o ?_; constructor) <;> intro hB))
  all_goals ((conv => whnf); (try dsimp only); (try simp only [Nat.succ_eq_add_one, Nat.le_eq, castL_self]); (try omega))
  all_goals (try (first | omega | (simp only [lens] <;> omega)))
  all_goals (rw [e]; clear e)
  all_goals first
   | (refine dec11 ?_; (try rw [hs]); (try rw [hw]); (try clear es); (try cases sr) <;> (try simp only [castL_self, eq_self, reduceCtorEq, and_true, and_false, true_and, false_and, or_false, false_or, not_false_eq_true, not_true_eq_false] at *) <;> omega)
   | (refine dec0 ?_; (try rw [hs]); (try rw [hw]); (try clear es); (try cases sr) <;> (try simp only [castL_self, eq_self, reduceCtorEq, and_true, and_false, true_and, false_and, or_false, false_or, not_false_eq_true, not_true_eq_false] at *) <;> omega)
   | trace_state
 | false =>
  repeat' ((conv => whnf); first | (with_reducible first | (refine W1.o ?_; constructor) | rfl | exact castL_self _ _) | ((with_reducible refine V.same_t ?_); exact rfl) | ((with_reducible refine andB_room ?_ ?_ ?_); (· kernel_rfl); (· (first | omega | (simp only [lens] <;> omega)))) | ((with_reducible refine W2.o ?_; constructor); · (first | (with_reducible assumption) | (first | omega | (simp only [lens] <;> omega)))) | ((with_reducible refine W3.o ?_; constructor); · (first | (with_reducible assumption) | (first | omega | (simp only [lens] <;> omega)))) | ((with_reducible refine W4.o ?_; constructor); · (first | (with_reducible first | assumption | exact decide_eq_true rfl | exact sEq_self _) | ((with_reducible refine eqOK_i ?_); kernel_rfl) | (first | (first | exact wC | exact wA | exact wB | exact hw)))) | ((with_reducible refine iteB_f ?_ ?_); · (first | (with_reducible first | assumption | exact decide_eq_true rfl | exact sEq_self _) | ((with_reducible refine eqOK_i ?_); kernel_rfl) | (first | (first | exact wC | exact wA | exact wB | exact hw)))) | (with_reducible refine W5.o ?_; constructor) | ((with_reducible refine W6.o ?_; constructor) <;> intro hB))
  all_goals ((conv => whnf); (try dsimp only); (try simp only [Nat.succ_eq_add_one, Nat.le_eq, castL_self]); (try omega))
  all_goals (try (first | omega | (simp only [lens] <;> omega)))
  all_goals (rw [e]; clear e)
  all_goals first
   | (refine dec11 ?_; (try rw [hs]); (try rw [hw]); (try clear es); (try cases sr) <;> (try simp only [castL_self, eq_self, reduceCtorEq, and_true, and_false, true_and, false_and, or_false, false_or, not_false_eq_true, not_true_eq_false] at *) <;> omega)
   | (refine dec0 ?_; (try rw [hs]); (try rw [hw]); (try clear es); (try cases sr) <;> (try simp only [castL_self, eq_self, reduceCtorEq, and_true, and_false, true_and, false_and, or_false, false_or, not_false_eq_true, not_true_eq_false] at *) <;> omega)
   | trace_state
theorem check_m (n : Nat) (wC : cmW C = true) (wA : opW A = true) (wB : opW B = true) (h1 : 0 ≤ cl) (h2 : 0 ≤ nm) (h3 : 0 ≤ rv) : PureAt Try.prog 11 [(.agg [.int .i64 (Int.negSucc n), .int .u64 cl, .int .u64 nm, .bool sr, .lst cmT C false, .lst opT A false, .lst opT B false, .int .u64 rv])] (.int .i64 (chE (Int.negSucc n) cl nm sr C A B rv)) := by
 have e := chE_eq (Int.negSucc n) cl nm rv sr C A B
 have lC := ((cmW_iff C).1 wC).1
 have lA := ((opW_iff A).1 wA).1
 have lB := ((opW_iff B).1 wB).1
 have hk : Int.negSucc n < 0 := Int.negSucc_lt_zero n
 refine pure_of_W0 (tab := tabZ) (fuel := 4) (d := 6) tabZ_ok ?_
 cases hw : wrB (Int.negSucc n) A B with
 | true =>
  repeat' ((conv => whnf); first | (with_reducible first | (refine W1.o ?_; constructor) | rfl | exact castL_self _ _) | ((with_reducible refine V.same_t ?_); exact rfl) | ((with_reducible refine andB_room ?_ ?_ ?_); (· kernel_rfl); (· (first | omega | (simp only [lens] <;> omega)))) | ((with_reducible refine W2.o ?_; constructor); · (first | (with_reducible assumption) | (first | omega | (simp only [lens] <;> omega)))) | ((with_reducible refine W3.o ?_; constructor); · (first | (with_reducible assumption) | (first | omega | (simp only [lens] <;> omega)))) | ((with_reducible refine W4.o ?_; constructor); · (first | (with_reducible first | assumption | exact decide_eq_true rfl | exact sEq_self _) | ((with_reducible refine eqOK_i ?_); kernel_rfl) | (first | (first | exact wC | exact wA | exact wB | exact hw)))) | ((with_reducible refine iteB_f ?_ ?_); · (first | (with_reducible first | assumption | exact decide_eq_true rfl | exact sEq_self _) | ((with_reducible refine eqOK_i ?_); kernel_rfl) | (first | (first | exact wC | exact wA | exact wB | exact hw)))) | (with_reducible refine W5.o ?_; constructor) | ((with_reducible refine W6.o ?_; constructor) <;> intro hB))
  all_goals ((conv => whnf); (try dsimp only); (try simp only [Nat.succ_eq_add_one, Nat.le_eq, castL_self]); (try omega))
  all_goals (try (first | omega | (simp only [lens] <;> omega)))
  all_goals (rw [e]; clear e)
  all_goals first
   | (refine dec11 ?_; (try rw [hs]); (try rw [hw]); (try clear es); (try cases sr) <;> (try simp only [castL_self, eq_self, reduceCtorEq, and_true, and_false, true_and, false_and, or_false, false_or, not_false_eq_true, not_true_eq_false] at *) <;> omega)
   | (refine dec0 ?_; (try rw [hs]); (try rw [hw]); (try clear es); (try cases sr) <;> (try simp only [castL_self, eq_self, reduceCtorEq, and_true, and_false, true_and, false_and, or_false, false_or, not_false_eq_true, not_true_eq_false] at *) <;> omega)
   | trace_state
 | false =>
  repeat' ((conv => whnf); first | (with_reducible first | (refine W1.o ?_; constructor) | rfl | exact castL_self _ _) | ((with_reducible refine V.same_t ?_); exact rfl) | ((with_reducible refine andB_room ?_ ?_ ?_); (· kernel_rfl); (· (first | omega | (simp only [lens] <;> omega)))) | ((with_reducible refine W2.o ?_; constructor); · (first | (with_reducible assumption) | (first | omega | (simp only [lens] <;> omega)))) | ((with_reducible refine W3.o ?_; constructor); · (first | (with_reducible assumption) | (first | omega | (simp only [lens] <;> omega)))) | ((with_reducible refine W4.o ?_; constructor); · (first | (with_reducible first | assumption | exact decide_eq_true rfl | exact sEq_self _) | ((with_reducible refine eqOK_i ?_); kernel_rfl) | (first | (first | exact wC | exact wA | exact wB | exact hw)))) | ((with_reducible refine iteB_f ?_ ?_); · (first | (with_reducible first | assumption | exact decide_eq_true rfl | exact sEq_self _) | ((with_reducible refine eqOK_i ?_); kernel_rfl) | (first | (first | exact wC | exact wA | exact wB | exact hw)))) | (with_reducible refine W5.o ?_; constructor) | ((with_reducible refine W6.o ?_; constructor) <;> intro hB))
  all_goals ((conv => whnf); (try dsimp only); (try simp only [Nat.succ_eq_add_one, Nat.le_eq, castL_self]); (try omega))
  all_goals (try (first | omega | (simp only [lens] <;> omega)))
  all_goals (rw [e]; clear e)
  all_goals first
   | (refine dec11 ?_; (try rw [hs]); (try rw [hw]); (try clear es); (try cases sr) <;> (try simp only [castL_self, eq_self, reduceCtorEq, and_true, and_false, true_and, false_and, or_false, false_or, not_false_eq_true, not_true_eq_false] at *) <;> omega)
   | (refine dec0 ?_; (try rw [hs]); (try rw [hw]); (try clear es); (try cases sr) <;> (try simp only [castL_self, eq_self, reduceCtorEq, and_true, and_false, true_and, false_and, or_false, false_or, not_false_eq_true, not_true_eq_false] at *) <;> omega)
   | trace_state
end
end Go.Proofs.Ytaloolcabmfjbaa
end
