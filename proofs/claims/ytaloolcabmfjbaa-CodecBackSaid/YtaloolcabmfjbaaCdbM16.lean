/-
  Texts of this claim, one behind the other: CdRp. Each says its own conditions.
-/
import Derived.Test.YtaloolcabmfjbaaCdbM15

set_option linter.unusedVariables false
set_option linter.unusedSimpArgs false
set_option linter.unusedSectionVars false
section
namespace Go.Proofs.Ytaloolcabmfjbaa
open Go.Sym
set_option linter.unusedVariables false
set_option linter.unusedSimpArgs false
set_option maxRecDepth 100000
set_option maxHeartbeats 4000000
theorem badR_at (K : List KvQ) (m : Bool) (c d : Int) (P : List KvQ) (hK : K.length ≤ 1000000) (hP : P.length ≤ 1000000) : PureAt Try.prog 85 [(.agg [.lst kvT K false, .bool m, .int .i64 c, .int .i64 d, .lst kvT P false])] (.bool (badR (K, m, c, d, P))) := by
 have e : badR (K, m, c, d, P) = decide (¬ (K.length ≤ 2000 ∧ P.length ≤ 2000 ∧ (0 ≤ c ∧ c ≤ 1073741824) ∧ 0 ≤ d ∧ d ≤ 1073741824)) := by rw [badR_eq, decide_not]
 refine pure_of_W0 (tab := noTab) (fuel := 4) (d := 4) noTab_ok ?_
 repeat' ((conv => whnf); first | (with_reducible first | (refine W1.o ?_; constructor) | rfl | exact castL_self _ _) | ((with_reducible refine V.same_t ?_); exact rfl) | ((with_reducible refine andB_room ?_ ?_ ?_); (· kernel_rfl); (· (first | omega | (simp only [lens] <;> omega)))) | ((with_reducible refine W2.o ?_; constructor); · (first | (with_reducible assumption) | (first | omega | (simp only [lens] <;> omega)))) | ((with_reducible refine W3.o ?_; constructor); · (first | (with_reducible assumption) | (first | omega | (simp only [lens] <;> omega)))) | ((with_reducible refine W4.o ?_; constructor); · (first | (with_reducible first | assumption | exact decide_eq_true rfl | exact sEq_self _) | ((with_reducible refine eqOK_i ?_); kernel_rfl))) | ((with_reducible refine iteB_f ?_ ?_); · (first | (with_reducible first | assumption | exact decide_eq_true rfl | exact sEq_self _) | ((with_reducible refine eqOK_i ?_); kernel_rfl))) | (with_reducible refine W5.o ?_; constructor) | ((with_reducible refine W6.o ?_; constructor) <;> intro hB))
 all_goals ((conv => whnf); (try dsimp only); (try simp only [Nat.succ_eq_add_one, Nat.le_eq, castL_self]); (try omega))
 all_goals (try (first | omega | (simp only [lens] <;> omega)))
 all_goals (rw [e]; refine congrArg V.bool ?_)
 all_goals (try simp only [cond_true, cond_false, leI_eq, ltI_eq, castL_self] at *)
 all_goals first
  | (refine (decide_eq_true ?_).symm; omega)
  | (refine (decide_eq_false ?_).symm; omega)
  | (refine decide_eq_decide.2 ?_; omega)
  | trace_state
noncomputable def reF (f : List KvQ → Bool → Int → Int → List KvQ → List Bool × V) (args : List V) : Option (List Bool × V) := match args with
 | [.agg [k, .bool m, .int .i64 c, .int .i64 d, p]] => (match ofLst kvT k, ofLst kvT p with
   | some K, some P => some (f K m c d P)
   | _, _ => none)
 | _ => none
theorem reF_ok {P : Program} {g : FuncId} {f : List KvQ → Bool → Int → Int → List KvQ → List Bool × V} (hf : ∀ K m c d Q, allB (f K m c d Q).1 → PureAt P g [.agg [.lst kvT K false, .bool m, .int .i64 c, .int .i64 d, .lst kvT Q false]] (f K m c d Q).2) (args : List V) (c : List Bool) (v : V) (h : reF f args = some (c, v)) (hc : allB c) : PureAt P g args v := by
 unfold reF at h
 split at h
 ·split at h
  ·rename_i k m c d p q1 q2 K Q h1 h2
   have e : f K m c d Q = (_, _) := Option.some.inj h
   have hg := hf K m c d Q (by rw [e]; exact hc)
   rw [e] at hg
   refine hg.weak fun φ X hX => ?_
   exact LRel.cons_of (agg_of (LRel.cons_of (fun _ h => ofLst_rel h1 h) (LRel.cons_of (fun _ h => h) (LRel.cons_of (fun _ h => h) (LRel.cons_of (fun _ h => h) (LRel.cons_of (fun _ h => ofLst_rel h2 h) fun _ h => h)))))) (fun _ h => h) X hX
  ·cases h
 ·cases h
noncomputable def badF : List KvQ → Bool → Int → Int → List KvQ → List Bool × V := fun K m c d P => ([decide (K.length ≤ 1000000), decide (P.length ≤ 1000000)], .bool (badR (K, m, c, d, P)))
noncomputable def tabB1 : Tab := oneTab 85 (reF badF) noTab
theorem tabB1_ok : TabOK Try.prog tabB1 := oneTab_ok (reF_ok fun K m c d P h => badR_at K m c d P (of_decide_eq_true h.1) (of_decide_eq_true h.2.1)) noTab_ok
noncomputable def bdrC (L : List ReQ) (i : Nat) : CD := ⟨19, [(0, .lst reT L false), (1, .fn 85 [] []), (7, .int .i64 (L.length : Int)), (8, .int .i64 (i : Int))], [], [], 0⟩
noncomputable def bdrR (v : Int) : CD := ⟨19, [(4, .int .i64 v)], [], [], 0⟩
noncomputable def bdrE : CD := ⟨19, [], [], [], 0⟩
theorem kvW_len {L : List KvQ} (h : kvW L = true) : List.length (α := KvQ) L ≤ 1000000 := ((kvW_iff L).1 h).1
theorem bdr_ix (L : List ReQ) (hw : reW L = true) : PureAt Try.prog 102 [.lst reT L false, .fn 85 [] []] (.int .i64 (ixI badR L)) := by
 rw [reW_iff] at hw
 have hx := ix_in badR L
 have hl := hw.1
 have hm := fst0_le badR L
 rcases hx with ⟨x1, x2, x3⟩ | ⟨x1, x2, x3⟩
 ·refine pure_of_loop tabB1_ok (fuel := 4) (d := 4) 2 (X := { i : Nat // i ≤ fst0 badR L }) (fun x => bdrC L x.1) (fun x => fst0 badR L - x.1)
   (fun _ => .leaf (.exit 0) bdrE) ⟨0, Nat.zero_le _⟩ [] rfl ?_ ?_
  ·rintro ⟨i, hi⟩
   dsimp only
   rcases Nat.lt_or_ge i L.length with hlt | hge
   ·obtain ⟨w1, w2⟩ : kvW (Sym.rowAt reT L (Int.toNat (i : Int))).1 = true ∧ kvW (Sym.rowAt reT L (Int.toNat (i : Int))).2.2.2.2 = true := by rw [show Int.toNat (i : Int) = i from Int.toNat_natCast i]; exact hw.2 i hlt
    have w3 := kvW_len w1
    have w4 := kvW_len w2
    have hp := fst0_not badR L (i := i) (by omega)
    have hp : badR (Sym.rowAt reT L (Int.toNat (i : Int))) = false := by rw [show Int.toNat (i : Int) = i from Int.toNat_natCast i]; exact hp
    repeat' ((conv => whnf); first | (with_reducible first | (refine W1.o ?_; constructor) | rfl | exact castL_self _ _) | ((with_reducible refine V.same_t ?_); exact rfl) | ((with_reducible refine andB_room ?_ ?_ ?_); (· kernel_rfl); (· (first | omega | (simp only [lens] <;> omega)))) | ((with_reducible refine W2.o ?_; constructor); · (first | (with_reducible assumption) | (first | omega | (simp only [lens] <;> omega)))) | ((with_reducible refine W3.o ?_; constructor); · (first | (with_reducible assumption) | (first | omega | (simp only [lens] <;> omega)))) | ((with_reducible refine W4.o ?_; constructor); · (first | (with_reducible first | assumption | exact decide_eq_true rfl | exact sEq_self _) | ((with_reducible refine eqOK_i ?_); kernel_rfl) | (first | (exact hp)))) | ((with_reducible refine iteB_f ?_ ?_); · (first | (with_reducible first | assumption | exact decide_eq_true rfl | exact sEq_self _) | ((with_reducible refine eqOK_i ?_); kernel_rfl) | (first | (exact hp)))) | (refine ⟨⟨i + 1, (by omega)⟩, ?_, rfl, ?_⟩) | (with_reducible refine CD.wk_au ?_) | (with_reducible refine W5.o ?_; constructor) | ((with_reducible refine W6.o ?_; constructor) <;> intro hB))
    all_goals ((conv => whnf); (try dsimp only); (try simp only [Nat.succ_eq_add_one, Nat.le_eq, castL_self]); (try omega))
    all_goals (try (first | omega | (simp only [lens] <;> omega)))
    all_goals first
     | exact rfl
     | omega
     | trace_state
   ·have he : i = L.length := Nat.le_antisymm (Nat.le_trans hi hm) hge
    subst he
    repeat' ((conv => whnf); first | (with_reducible first | (refine W1.o ?_; constructor) | rfl | exact castL_self _ _) | ((with_reducible refine V.same_t ?_); exact rfl) | ((with_reducible refine andB_room ?_ ?_ ?_); (· kernel_rfl); (· (first | omega | (simp only [lens] <;> omega)))) | ((with_reducible refine W2.o ?_; constructor); · (first | (with_reducible assumption) | (first | omega | (simp only [lens] <;> omega)))) | ((with_reducible refine W3.o ?_; constructor); · (first | (with_reducible assumption) | (first | omega | (simp only [lens] <;> omega)))) | ((with_reducible refine W4.o ?_; constructor); · (first | (with_reducible first | assumption | exact decide_eq_true rfl | exact sEq_self _) | ((with_reducible refine eqOK_i ?_); kernel_rfl))) | ((with_reducible refine iteB_f ?_ ?_); · (first | (with_reducible first | assumption | exact decide_eq_true rfl | exact sEq_self _) | ((with_reducible refine eqOK_i ?_); kernel_rfl))) | (with_reducible refine CD.wk_au ?_) | (with_reducible refine W5.o ?_; constructor) | ((with_reducible refine W6.o ?_; constructor) <;> intro hB))
    all_goals ((conv => whnf); (try dsimp only); (try simp only [Nat.succ_eq_add_one, Nat.le_eq, castL_self]); (try omega))
    all_goals (try (first | omega | (simp only [lens] <;> omega)))
    all_goals first
     | exact rfl
     | trace_state
  ·repeat' ((conv => whnf); first | (with_reducible first | (refine W1.o ?_; constructor) | rfl | exact castL_self _ _) | ((with_reducible refine V.same_t ?_); exact rfl) | ((with_reducible refine andB_room ?_ ?_ ?_); (· kernel_rfl); (· (first | omega | (simp only [lens] <;> omega)))) | ((with_reducible refine W2.o ?_; constructor); · (first | (with_reducible assumption) | (first | omega | (simp only [lens] <;> omega)))) | ((with_reducible refine W3.o ?_; constructor); · (first | (with_reducible assumption) | (first | omega | (simp only [lens] <;> omega)))) | ((with_reducible refine W4.o ?_; constructor); · (first | (with_reducible first | assumption | exact decide_eq_true rfl | exact sEq_self _) | ((with_reducible refine eqOK_i ?_); kernel_rfl))) | ((with_reducible refine iteB_f ?_ ?_); · (first | (with_reducible first | assumption | exact decide_eq_true rfl | exact sEq_self _) | ((with_reducible refine eqOK_i ?_); kernel_rfl))) | (with_reducible refine CD.wk_au ?_) | (with_reducible refine W5.o ?_; constructor) | ((with_reducible refine W6.o ?_; constructor) <;> intro hB))
   all_goals ((conv => whnf); (try dsimp only); (try simp only [Nat.succ_eq_add_one, Nat.le_eq, castL_self]); (try omega))
   all_goals (try (first | omega | (simp only [lens] <;> omega)))
   all_goals first
    | exact rfl
    | (rw [x1]; done)
    | trace_state
 ·refine pure_of_loop tabB1_ok (fuel := 4) (d := 4) 2 (X := { i : Nat // i ≤ fst0 badR L }) (fun x => bdrC L x.1) (fun x => fst0 badR L - x.1)
   (fun _ => .leaf .ret (bdrR (fst0 badR L : Int))) ⟨0, Nat.zero_le _⟩ [] rfl ?_ ?_
  ·rintro ⟨i, hi⟩
   dsimp only
   have hlt : i < L.length := by omega
   obtain ⟨w1, w2⟩ : kvW (Sym.rowAt reT L (Int.toNat (i : Int))).1 = true ∧ kvW (Sym.rowAt reT L (Int.toNat (i : Int))).2.2.2.2 = true := by rw [show Int.toNat (i : Int) = i from Int.toNat_natCast i]; exact hw.2 i hlt
   have w3 := kvW_len w1
   have w4 := kvW_len w2
   rcases Nat.lt_or_ge i (fst0 badR L) with hlf | hgf
   ·have hp := fst0_not badR L hlf
    have hp : badR (Sym.rowAt reT L (Int.toNat (i : Int))) = false := by rw [show Int.toNat (i : Int) = i from Int.toNat_natCast i]; exact hp
    repeat' ((conv => whnf); first | (with_reducible first | (refine W1.o ?_; constructor) | rfl | exact castL_self _ _) | ((with_reducible refine V.same_t ?_); exact rfl) | ((with_reducible refine andB_room ?_ ?_ ?_); (· kernel_rfl); (· (first | omega | (simp only [lens] <;> omega)))) | ((with_reducible refine W2.o ?_; constructor); · (first | (with_reducible assumption) | (first | omega | (simp only [lens] <;> omega)))) | ((with_reducible refine W3.o ?_; constructor); · (first | (with_reducible assumption) | (first | omega | (simp only [lens] <;> omega)))) | ((with_reducible refine W4.o ?_; constructor); · (first | (with_reducible first | assumption | exact decide_eq_true rfl | exact sEq_self _) | ((with_reducible refine eqOK_i ?_); kernel_rfl) | (first | (exact hp)))) | ((with_reducible refine iteB_f ?_ ?_); · (first | (with_reducible first | assumption | exact decide_eq_true rfl | exact sEq_self _) | ((with_reducible refine eqOK_i ?_); kernel_rfl) | (first | (exact hp)))) | (refine ⟨⟨i + 1, hlf⟩, ?_, rfl, ?_⟩) | (with_reducible refine CD.wk_au ?_) | (with_reducible refine W5.o ?_; constructor) | ((with_reducible refine W6.o ?_; constructor) <;> intro hB))
    all_goals ((conv => whnf); (try dsimp only); (try simp only [Nat.succ_eq_add_one, Nat.le_eq, castL_self]); (try omega))
    all_goals (try (first | omega | (simp only [lens] <;> omega)))
    all_goals first
     | exact rfl
     | omega
     | trace_state
   ·have he : i = fst0 badR L := Nat.le_antisymm hi hgf
    have hp := fst0_is badR L (by omega)
    rw [← he] at hp
    have hp : badR (Sym.rowAt reT L (Int.toNat (i : Int))) = true := by rw [show Int.toNat (i : Int) = i from Int.toNat_natCast i]; exact hp
    repeat' ((conv => whnf); first | (with_reducible first | (refine W1.o ?_; constructor) | rfl | exact castL_self _ _) | ((with_reducible refine V.same_t ?_); exact rfl) | ((with_reducible refine andB_room ?_ ?_ ?_); (· kernel_rfl); (· (first | omega | (simp only [lens] <;> omega)))) | ((with_reducible refine W2.o ?_; constructor); · (first | (with_reducible assumption) | (first | omega | (simp only [lens] <;> omega)))) | ((with_reducible refine W3.o ?_; constructor); · (first | (with_reducible assumption) | (first | omega | (simp only [lens] <;> omega)))) | ((with_reducible refine W4.o ?_; constructor); · (first | (with_reducible first | assumption | exact decide_eq_true rfl | exact sEq_self _) | ((with_reducible refine eqOK_i ?_); kernel_rfl) | (first | (exact hp)))) | ((with_reducible refine iteB_f ?_ ?_); · (first | (with_reducible first | assumption | exact decide_eq_true rfl | exact sEq_self _) | ((with_reducible refine eqOK_i ?_); kernel_rfl) | (first | (exact hp)))) | (with_reducible refine CD.wk_au ?_) | (with_reducible refine W5.o ?_; constructor) | ((with_reducible refine W6.o ?_; constructor) <;> intro hB))
    all_goals ((conv => whnf); (try dsimp only); (try simp only [Nat.succ_eq_add_one, Nat.le_eq, castL_self]); (try omega))
    all_goals (try (first | omega | (simp only [lens] <;> omega)))
    all_goals first
     | exact rfl
     | exact congrArg (Nat.cast : Nat → Int) he
     | omega
     | trace_state
  ·repeat' ((conv => whnf); first | (with_reducible first | (refine W1.o ?_; constructor) | rfl | exact castL_self _ _) | ((with_reducible refine V.same_t ?_); exact rfl) | ((with_reducible refine andB_room ?_ ?_ ?_); (· kernel_rfl); (· (first | omega | (simp only [lens] <;> omega)))) | ((with_reducible refine W2.o ?_; constructor); · (first | (with_reducible assumption) | (first | omega | (simp only [lens] <;> omega)))) | ((with_reducible refine W3.o ?_; constructor); · (first | (with_reducible assumption) | (first | omega | (simp only [lens] <;> omega)))) | ((with_reducible refine W4.o ?_; constructor); · (first | (with_reducible first | assumption | exact decide_eq_true rfl | exact sEq_self _) | ((with_reducible refine eqOK_i ?_); kernel_rfl))) | ((with_reducible refine iteB_f ?_ ?_); · (first | (with_reducible first | assumption | exact decide_eq_true rfl | exact sEq_self _) | ((with_reducible refine eqOK_i ?_); kernel_rfl))) | (with_reducible refine CD.wk_au ?_) | (with_reducible refine W5.o ?_; constructor) | ((with_reducible refine W6.o ?_; constructor) <;> intro hB))
   all_goals ((conv => whnf); (try dsimp only); (try simp only [Nat.succ_eq_add_one, Nat.le_eq, castL_self]); (try omega))
   all_goals (try (first | omega | (simp only [lens] <;> omega)))
   all_goals first
    | exact rfl
    | (rw [x1]; done)
    | exact x1.symm
    | trace_state
noncomputable def bdrF (args : List V) : Option (List Bool × V) := match args with
 | [l, .fn g [] []] => (match ofLst reT l with
   | some L => some ([Nat.beq g 85, reW L], .int .i64 (ixI badR L))
   | none => none)
 | _ => none
theorem bdrF_ok (args : List V) (c : List Bool) (v : V) (h : bdrF args = some (c, v)) (hc : allB c) : PureAt Try.prog 102 args v := by
 unfold bdrF at h
 split at h
 ·split at h
  ·rename_i l g q L hl
   cases h
   rw [Nat.eq_of_beq_eq_true hc.1]
   exact PureAt.lst0 (bdr_ix L hc.2.1) hl
  ·cases h
 ·cases h
noncomputable def tabB2 : Tab := oneTab 102 bdrF noTab
theorem tabB2_ok : TabOK Try.prog tabB2 := oneTab_ok bdrF_ok noTab_ok
noncomputable def maB : Int → Int → List ReQ → Bool := hide fun er ld R => decide (0 ≤ er ∧ er ≤ 19 ∧ -1 ≤ ld ∧ ld < 7 ∧ R.length ≤ 6 ∧ anyB badR R = false)
theorem maB_eq (er ld : Int) (R : List ReQ) : maB er ld R = decide (0 ≤ er ∧ er ≤ 19 ∧ -1 ≤ ld ∧ ld < 7 ∧ R.length ≤ 6 ∧ anyB badR R = false) := by unfold maB; rw [hide_eq]
section
variable (er rv cm ha ap te ld : Int) (tk : Bool) (R : List ReQ)
theorem mayResp_at (wR : reW R = true) : PureAt Try.prog 47 [(.agg [.int .i64 er, .int .u64 rv, .int .u64 cm, .bool tk, .lst reT R false, .int .u32 ha, .int .u64 ap, .int .u64 te, .int .i64 ld])] (.bool (maB er ld R)) := by
 have ib := ix_in badR R
 have e := maB_eq er ld R
 have lR := ((reW_iff R).1 wR).1
 refine pure_of_W0 (tab := tabB2) (fuel := 4) (d := 6) tabB2_ok ?_
 rcases ib with ⟨b1, b2, b3⟩ | ⟨b1, b2, b3⟩
 all_goals
  repeat' ((conv => whnf); first | (with_reducible first | (refine W1.o ?_; constructor) | rfl | exact castL_self _ _) | ((with_reducible refine V.same_t ?_); exact rfl) | ((with_reducible refine andB_room ?_ ?_ ?_); (· kernel_rfl); (· (first | omega | (simp only [lens] <;> omega)))) | ((with_reducible refine W2.o ?_; constructor); · (first | (with_reducible assumption) | (first | omega | (simp only [lens] <;> omega)))) | ((with_reducible refine W3.o ?_; constructor); · (first | (with_reducible assumption) | (first | omega | (simp only [lens] <;> omega)))) | ((with_reducible refine W4.o ?_; constructor); · (first | (with_reducible first | assumption | exact decide_eq_true rfl | exact sEq_self _) | ((with_reducible refine eqOK_i ?_); kernel_rfl) | (first | (exact wR)))) | ((with_reducible refine iteB_f ?_ ?_); · (first | (with_reducible first | assumption | exact decide_eq_true rfl | exact sEq_self _) | ((with_reducible refine eqOK_i ?_); kernel_rfl) | (first | (exact wR)))) | (with_reducible refine W5.o ?_; constructor) | ((with_reducible refine W6.o ?_; constructor) <;> intro hB))
  all_goals ((conv => whnf); (try dsimp only); (try simp only [Nat.succ_eq_add_one, Nat.le_eq, castL_self]); (try omega))
  all_goals (try (first | omega | (simp only [lens] <;> omega)))
  all_goals (rw [e]; refine congrArg V.bool ?_)
  all_goals (try simp only [cond_true, cond_false, leI_eq, ltI_eq, le_ix, castL_self, b2, eq_self, reduceCtorEq, Bool.not_true, Bool.not_false, and_true, and_false] at *)
  all_goals first
   | exact rfl
   | (refine (decide_eq_true ?_).symm; omega)
   | (refine (decide_eq_false ?_).symm; (first | omega | exact not_false))
   | (refine decide_eq_decide.2 ?_; omega)
   | (rw [← decide_not]; refine decide_eq_decide.2 ?_; omega)
   | (have q : 0 ≤ ixI badR R := by omega
      simp [q]; done)
   | trace_state
end
end Go.Proofs.Ytaloolcabmfjbaa
end
