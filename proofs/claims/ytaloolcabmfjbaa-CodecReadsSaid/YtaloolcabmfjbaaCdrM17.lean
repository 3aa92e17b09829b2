/-
  Texts of this claim, one behind the other: CdRp CdRq CdDer. Each says its own conditions.
-/
import Derived.Test.YtaloolcabmfjbaaCdrM16
import Derived.Test.YtaloolcabmfjbaaCdrM11

set_option linter.unusedVariables false
set_option linter.unusedSimpArgs false
set_option linter.unusedSectionVars false
noncomputable section
namespace Go.Proofs.Ytaloolcabmfjbaa
open Go.Sym
set_option maxRecDepth 100000
set_option maxHeartbeats 4000000
theorem badR_at (K : List KvQ) (m : Bool) (c d : Int) (P : List KvQ) (hK : K.length ≤ 1000000) (hP : P.length ≤ 1000000) : PureAt Try.prog 85 [(.agg [.lst kvT K false, .bool m, .int .i64 c, .int .i64 d, .lst kvT P false])] (.bool (badR (K, m, c, d, P))) := by
 have e : badR (K, m, c, d, P) = decide (¬ (K.length ≤ 2000 ∧ P.length ≤ 2000 ∧ (0 ≤ c ∧ c ≤ 1073741824) ∧ 0 ≤ d ∧ d ≤ 1073741824)) := by rw [badR_eq, decide_not]
 refine pure_of_W0 (tab := noTab) (fuel := 4) (d := 4) noTab_ok ?_
 repeat' ((conv => whnf); first | (with_reducible first | (refine W1.o ?_; constructor) | rfl | exact castL_self _ _) | ((with_reducible refine V.same_t ?_); exact rfl) | ((with_reducible refine andB_room ?_ ?_ ?_); (· kernel_rfl); (· (first | omega | (simp only [lens] <;> omega)))) | ((with_reducible refine W2.o ?_; constructor); · (first | with_reducible assumption | omega | (simp only [lens] <;> omega))) | ((with_reducible refine W3.o ?_; constructor); · (first | with_reducible assumption | omega | (simp only [lens] <;> omega))) | ((with_reducible refine W4.o ?_; constructor); · (first | (with_reducible first | assumption | exact decide_eq_true rfl | exact sEq_self _) | ((with_reducible refine eqOK_i ?_); kernel_rfl))) | ((with_reducible refine iteB_f ?_ ?_); · (first | (with_reducible first | assumption | exact decide_eq_true rfl | exact sEq_self _) | ((with_reducible refine eqOK_i ?_); kernel_rfl))) | (with_reducible refine W5.o ?_; constructor) | ((with_reducible refine W6.o ?_; constructor) <;> intro hB))
 all_goals ((conv => whnf); (try dsimp only); (try simp only [Nat.succ_eq_add_one, Nat.le_eq, castL_self]); (try omega))
 all_goals (try (first | omega | (simp only [lens] <;> omega)))
 all_goals (rw [e]; refine congrArg V.bool ?_)
 all_goals (try simp only [cond_true, cond_false, leI_eq, ltI_eq, castL_self] at *)
 all_goals first
  | (refine (decide_eq_true ?_).symm; omega)
  | (refine (decide_eq_false ?_).symm; omega)
  | (refine decide_eq_decide.2 ?_; omega)
def reF (f : List KvQ → Bool → Int → Int → List KvQ → List Bool × V) (args : List V) : Option (List Bool × V) := match args with
 | [.agg [k, .bool m, .int .i64 c, .int .i64 d, p]] => (match ofLst kvT k, ofLst kvT p with
   | some K, some P => some (f K m c d P)
   | _, _ => none)
 | _ => none
theorem reF_ok {P : Program} {g : FuncId} {f : List KvQ → Bool → Int → Int → List KvQ → List Bool × V} (hf : ∀ K m c d Q, allB (f K m c d Q).1 → PureAt P g [.agg [.lst kvT K false, .bool m, .int .i64 c, .int .i64 d, .lst kvT Q false]] (f K m c d Q).2) (args : List V) (c : List Bool) (v : V) (h : reF f args = some (c, v)) (hc : allB c) : PureAt P g args v := by
 unfold reF at h
 split at h
 ·split at h
  ·rename_i k m c d p q1 q2 K Q h1 h2
   have e : f K m c d Q = (_, _) := Option.some.inj h
   have hg := hf K m c d Q (by rw [e]; exact hc)
   rw [e] at hg
   refine hg.weak fun φ X hX => ?_
   exact LRel.cons_of (agg_of (LRel.cons_of (fun _ h => ofLst_rel h1 h) (LRel.cons_of (fun _ h => h) (LRel.cons_of (fun _ h => h) (LRel.cons_of (fun _ h => h) (LRel.cons_of (fun _ h => ofLst_rel h2 h) fun _ h => h)))))) (fun _ h => h) X hX
  ·cases h
 ·cases h
def badF : List KvQ → Bool → Int → Int → List KvQ → List Bool × V := fun K m c d P => ([decide (K.length ≤ 1000000), decide (P.length ≤ 1000000)], .bool (badR (K, m, c, d, P)))
def tabB1 : Tab := oneTab 85 (reF badF) noTab
theorem tabB1_ok : TabOK Try.prog tabB1 := oneTab_ok (reF_ok fun K m c d P h => badR_at K m c d P (of_decide_eq_true h.1) (of_decide_eq_true h.2.1)) noTab_ok
def bdrC (L : List ReQ) (i : Nat) : CD := ⟨19, [(0, .lst reT L false), (1, .fn 85 [] []), (7, .int .i64 (L.length : Int)), (8, .int .i64 (i : Int))], [], [], 0⟩
def bdrR (v : Int) : CD := ⟨19, [(4, .int .i64 v)], [], [], 0⟩
def bdrE : CD := ⟨19, [], [], [], 0⟩
theorem kvW_len {L : List KvQ} (h : kvW L = true) : List.length (α := KvQ) L ≤ 1000000 := ((kvW_iff L).1 h).1
theorem bdr_ix (L : List ReQ) (hw : reW L = true) : PureAt Try.prog 102 [.lst reT L false, .fn 85 [] []] (.int .i64 (ixI badR L)) := by
 rw [reW_iff] at hw
 have hx := ix_in badR L
 have hl := hw.1
 have hm := fst0_le badR L
 rcases hx with ⟨x1, x2, x3⟩ | ⟨x1, x2, x3⟩
 ·refine pure_of_loop tabB1_ok (fuel := 4) (d := 4) 2 (X := { i : Nat // i ≤ fst0 badR L }) (fun x => bdrC L x.1) (fun x => fst0 badR L - x.1)
   (fun _ => .leaf (.exit 0) bdrE) ⟨0, Nat.zero_le _⟩ [] rfl ?_ ?_
  ·rintro ⟨i, hi⟩
   dsimp only
   rcases Nat.lt_or_ge i L.length with hlt | hge
   case' inl =>
    obtain ⟨w1, w2⟩ : kvW (Sym.rowAt reT L (Int.toNat (i : Int))).1 = true ∧ kvW (Sym.rowAt reT L (Int.toNat (i : Int))).2.2.2.2 = true := by rw [show Int.toNat (i : Int) = i from Int.toNat_natCast i]; exact hw.2 i hlt
    have w3 := kvW_len w1
    have w4 := kvW_len w2
    have hp := fst0_not badR L (i := i) (by omega)
    have hp : badR (Sym.rowAt reT L (Int.toNat (i : Int))) = false := by rw [show Int.toNat (i : Int) = i from Int.toNat_natCast i]; exact hp
   case' inr =>
    have he : i = L.length := Nat.le_antisymm (Nat.le_trans hi hm) hge
    subst he
   all_goals
    repeat' ((conv => whnf); first | (with_reducible first | (refine W1.o ?_; constructor) | rfl | exact castL_self _ _) | ((with_reducible refine V.same_t ?_); exact rfl) | ((with_reducible refine andB_room ?_ ?_ ?_); (· kernel_rfl); (· (first | omega | (simp only [lens] <;> omega)))) | ((with_reducible refine W2.o ?_; constructor); · (first | with_reducible assumption | omega | (simp only [lens] <;> omega))) | ((with_reducible refine W3.o ?_; constructor); · (first | with_reducible assumption | omega | (simp only [lens] <;> omega))) | ((with_reducible refine W4.o ?_; constructor); · (first | (with_reducible first | assumption | exact decide_eq_true rfl | exact sEq_self _) | ((with_reducible refine eqOK_i ?_); kernel_rfl) | exact hp)) | ((with_reducible refine iteB_f ?_ ?_); · (first | (with_reducible first | assumption | exact decide_eq_true rfl | exact sEq_self _) | ((with_reducible refine eqOK_i ?_); kernel_rfl) | exact hp)) | (refine ⟨⟨i + 1, (by omega)⟩, ?_, rfl, ?_⟩) | (with_reducible refine CD.wk_au ?_) | (with_reducible refine W5.o ?_; constructor) | ((with_reducible refine W6.o ?_; constructor) <;> intro hB))
    all_goals ((conv => whnf); (try dsimp only); (try simp only [Nat.succ_eq_add_one, Nat.le_eq, castL_self]); (try omega))
    all_goals (try (first | omega | (simp only [lens] <;> omega)))
    all_goals first
     | exact rfl
     | omega
  ·repeat' ((conv => whnf); first | (with_reducible first | (refine W1.o ?_; constructor) | rfl | exact castL_self _ _) | ((with_reducible refine V.same_t ?_); exact rfl) | ((with_reducible refine andB_room ?_ ?_ ?_); (· kernel_rfl); (· (first | omega | (simp only [lens] <;> omega)))) | ((with_reducible refine W2.o ?_; constructor); · (first | with_reducible assumption | omega | (simp only [lens] <;> omega))) | ((with_reducible refine W3.o ?_; constructor); · (first | with_reducible assumption | omega | (simp only [lens] <;> omega))) | ((with_reducible refine W4.o ?_; constructor); · (first | (with_reducible first | assumption | exact decide_eq_true rfl | exact sEq_self _) | ((with_reducible refine eqOK_i ?_); kernel_rfl))) | ((with_reducible refine iteB_f ?_ ?_); · (first | (with_reducible first | assumption | exact decide_eq_true rfl | exact sEq_self _) | ((with_reducible refine eqOK_i ?_); kernel_rfl))) | (with_reducible refine CD.wk_au ?_) | (with_reducible refine W5.o ?_; constructor) | ((with_reducible refine W6.o ?_; constructor) <;> intro hB))
   all_goals ((conv => whnf); (try dsimp only); (try simp only [Nat.succ_eq_add_one, Nat.le_eq, castL_self]); (try omega))
   all_goals (try (first | omega | (simp only [lens] <;> omega)))
   all_goals first
    | exact rfl
    | (rw [x1]; done)
 ·refine pure_of_loop tabB1_ok (fuel := 4) (d := 4) 2 (X := { i : Nat // i ≤ fst0 badR L }) (fun x => bdrC L x.1) (fun x => fst0 badR L - x.1)
   (fun _ => .leaf .ret (bdrR (fst0 badR L : Int))) ⟨0, Nat.zero_le _⟩ [] rfl ?_ ?_
  ·rintro ⟨i, hi⟩
   dsimp only
   have hlt : i < L.length := by omega
   obtain ⟨w1, w2⟩ : kvW (Sym.rowAt reT L (Int.toNat (i : Int))).1 = true ∧ kvW (Sym.rowAt reT L (Int.toNat (i : Int))).2.2.2.2 = true := by rw [show Int.toNat (i : Int) = i from Int.toNat_natCast i]; exact hw.2 i hlt
   have w3 := kvW_len w1
   have w4 := kvW_len w2
   rcases Nat.lt_or_ge i (fst0 badR L) with hlf | hgf
   case' inl =>
    have hp := fst0_not badR L hlf
    have hp : badR (Sym.rowAt reT L (Int.toNat (i : Int))) = false := by rw [show Int.toNat (i : Int) = i from Int.toNat_natCast i]; exact hp
   case' inr =>
    have he : i = fst0 badR L := Nat.le_antisymm hi hgf
    have hp := fst0_is badR L (by omega)
    rw [← he] at hp
    have hp : badR (Sym.rowAt reT L (Int.toNat (i : Int))) = true := by rw [show Int.toNat (i : Int) = i from Int.toNat_natCast i]; exact hp
   all_goals
    repeat' ((conv => whnf); first | (with_reducible first | (refine W1.o ?_; constructor) | rfl | exact castL_self _ _) | ((with_reducible refine V.same_t ?_); exact rfl) | ((with_reducible refine andB_room ?_ ?_ ?_); (· kernel_rfl); (· (first | omega | (simp only [lens] <;> omega)))) | ((with_reducible refine W2.o ?_; constructor); · (first | with_reducible assumption | omega | (simp only [lens] <;> omega))) | ((with_reducible refine W3.o ?_; constructor); · (first | with_reducible assumption | omega | (simp only [lens] <;> omega))) | ((with_reducible refine W4.o ?_; constructor); · (first | (with_reducible first | assumption | exact decide_eq_true rfl | exact sEq_self _) | ((with_reducible refine eqOK_i ?_); kernel_rfl) | exact hp)) | ((with_reducible refine iteB_f ?_ ?_); · (first | (with_reducible first | assumption | exact decide_eq_true rfl | exact sEq_self _) | ((with_reducible refine eqOK_i ?_); kernel_rfl) | exact hp)) | (refine ⟨⟨i + 1, hlf⟩, ?_, rfl, ?_⟩) | (with_reducible refine CD.wk_au ?_) | (with_reducible refine W5.o ?_; constructor) | ((with_reducible refine W6.o ?_; constructor) <;> intro hB))
    all_goals ((conv => whnf); (try dsimp only); (try simp only [Nat.succ_eq_add_one, Nat.le_eq, castL_self]); (try omega))
    all_goals (try (first | omega | (simp only [lens] <;> omega)))
    all_goals first
     | exact rfl
     | omega
     | exact congrArg (Nat.cast : Nat → Int) he
  ·repeat' ((conv => whnf); first | (with_reducible first | (refine W1.o ?_; constructor) | rfl | exact castL_self _ _) | ((with_reducible refine V.same_t ?_); exact rfl) | ((with_reducible refine andB_room ?_ ?_ ?_); (· kernel_rfl); (· (first | omega | (simp only [lens] <;> omega)))) | ((with_reducible refine W2.o ?_; constructor); · (first | with_reducible assumption | omega | (simp only [lens] <;> omega))) | ((with_reducible refine W3.o ?_; constructor); · (first | with_reducible assumption | omega | (simp only [lens] <;> omega))) | ((with_reducible refine W4.o ?_; constructor); · (first | (with_reducible first | assumption | exact decide_eq_true rfl | exact sEq_self _) | ((with_reducible refine eqOK_i ?_); kernel_rfl))) | ((with_reducible refine iteB_f ?_ ?_); · (first | (with_reducible first | assumption | exact decide_eq_true rfl | exact sEq_self _) | ((with_reducible refine eqOK_i ?_); kernel_rfl))) | (with_reducible refine CD.wk_au ?_) | (with_reducible refine W5.o ?_; constructor) | ((with_reducible refine W6.o ?_; constructor) <;> intro hB))
   all_goals ((conv => whnf); (try dsimp only); (try simp only [Nat.succ_eq_add_one, Nat.le_eq, castL_self]); (try omega))
   all_goals (try (first | omega | (simp only [lens] <;> omega)))
   all_goals first
    | exact rfl
    | (rw [x1]; done)
    | exact x1.symm
def bdrF (args : List V) : Option (List Bool × V) := match args with
 | [l, .fn g [] []] => (match ofLst reT l with
   | some L => some ([Nat.beq g 85, reW L], .int .i64 (ixI badR L))
   | none => none)
 | _ => none
theorem bdrF_ok (args : List V) (c : List Bool) (v : V) (h : bdrF args = some (c, v)) (hc : allB c) : PureAt Try.prog 102 args v := by
 unfold bdrF at h
 split at h
 ·split at h
  ·rename_i l g q L hl
   cases h
   rw [Nat.eq_of_beq_eq_true hc.1]
   exact PureAt.lst0 (bdr_ix L hc.2.1) hl
  ·cases h
 ·cases h
def tabB2 : Tab := oneTab 102 bdrF noTab
theorem tabB2_ok : TabOK Try.prog tabB2 := oneTab_ok bdrF_ok noTab_ok
def maB : Int → Int → List ReQ → Bool := hide fun er ld R => decide (0 ≤ er ∧ er ≤ 19 ∧ -1 ≤ ld ∧ ld < 7 ∧ R.length ≤ 6 ∧ anyB badR R = false)
theorem maB_eq (er ld : Int) (R : List ReQ) : maB er ld R = decide (0 ≤ er ∧ er ≤ 19 ∧ -1 ≤ ld ∧ ld < 7 ∧ R.length ≤ 6 ∧ anyB badR R = false) := by unfold maB; rw [hide_eq]
section
variable (er rv cm ha ap te ld : Int) (tk : Bool) (R : List ReQ)
theorem mayResp_at (wR : reW R = true) : PureAt Try.prog 47 [(.agg [.int .i64 er, .int .u64 rv, .int .u64 cm, .bool tk, .lst reT R false, .int .u32 ha, .int .u64 ap, .int .u64 te, .int .i64 ld])] (.bool (maB er ld R)) := by
 have ib := ix_in badR R
 have e := maB_eq er ld R
 have lR := ((reW_iff R).1 wR).1
 refine pure_of_W0 (tab := tabB2) (fuel := 4) (d := 6) tabB2_ok ?_
 rcases ib with ⟨b1, b2, b3⟩ | ⟨b1, b2, b3⟩
 all_goals
  repeat' ((conv => whnf); first | (with_reducible first | (refine W1.o ?_; constructor) | rfl | exact castL_self _ _) | ((with_reducible refine V.same_t ?_); exact rfl) | ((with_reducible refine andB_room ?_ ?_ ?_); (· kernel_rfl); (· (first | omega | (simp only [lens] <;> omega)))) | ((with_reducible refine W2.o ?_; constructor); · (first | with_reducible assumption | omega | (simp only [lens] <;> omega))) | ((with_reducible refine W3.o ?_; constructor); · (first | with_reducible assumption | omega | (simp only [lens] <;> omega))) | ((with_reducible refine W4.o ?_; constructor); · (first | (with_reducible first | assumption | exact decide_eq_true rfl | exact sEq_self _) | ((with_reducible refine eqOK_i ?_); kernel_rfl) | (first | (exact wR)))) | ((with_reducible refine iteB_f ?_ ?_); · (first | (with_reducible first | assumption | exact decide_eq_true rfl | exact sEq_self _) | ((with_reducible refine eqOK_i ?_); kernel_rfl) | (first | (exact wR)))) | (with_reducible refine W5.o ?_; constructor) | ((with_reducible refine W6.o ?_; constructor) <;> intro hB))
  all_goals ((conv => whnf); (try dsimp only); (try simp only [Nat.succ_eq_add_one, Nat.le_eq, castL_self]); (try omega))
  all_goals (try (first | omega | (simp only [lens] <;> omega)))
  all_goals (rw [e]; refine congrArg V.bool ?_)
  all_goals (try simp only [cond_true, cond_false, leI_eq, ltI_eq, le_ix, castL_self, b2, eq_self, reduceCtorEq, Bool.not_true, Bool.not_false, and_true, and_false] at *)
  all_goals first
   | exact rfl
   | (refine (decide_eq_true ?_).symm; omega)
   | (refine (decide_eq_false ?_).symm; (first | omega | exact not_false))
   | (refine decide_eq_decide.2 ?_; omega)
   | (rw [← decide_not]; refine decide_eq_decide.2 ?_; omega)
   | (have q : 0 ≤ ixI badR R := by omega
      simp [q]; done)
abbrev rpH : List (Nat × EObj) := [(0, .cells [.int .i64 er, .int .u64 rv, .int .u64 cm, .bool tk, .lst reT R false, .int .u32 ha, .int .u64 ap, .int .u64 te, .int .i64 ld] 0 false)]
def rmrC (i : Nat) : CD := ⟨71, [(1, .ptr 0 0), (3, .int .i64 (i : Int))], [], rpH er rv cm ha ap te ld tk R, 1⟩
def rmrR : CD := ⟨71, [(2, .bool false)], [], [], 0⟩
theorem rmr_n (N : Nat) (hw : reW R = true) (hb : anyB badR R = false) : LpD.ok Try.prog N 0 (bodyOf Try.prog 50) ⟨4, [(0, 0)], rmrC er rv cm ha ap te ld tk R 0, .leaf (.exit 0) (rmrC er rv cm ha ap te ld tk R R.length)⟩ := by
 rw [reW_iff] at hw
 have hl := hw.1
 refine LpD.ok_one (b := bodyAt Try.prog 50 4) rfl (loop_W noTab_ok (fuel := 4) (d := 5) (X := { i : Nat // i ≤ R.length }) (fun x => rmrC er rv cm ha ap te ld tk R x.1) (fun x => R.length - x.1)
   (fun _ => .leaf (.exit 0) (rmrC er rv cm ha ap te ld tk R R.length)) (fun _ => noLpW) (fun _ => noLp) (fun _ => noLp_ad) (fun _ => noLp_ok _) ?_ ⟨0, Nat.zero_le _⟩)
 rintro ⟨i, hi⟩
 dsimp only
 rcases Nat.lt_or_ge i R.length with hlt | hge
 case' inl =>
  obtain ⟨w1, w2⟩ : kvW (Sym.rowAt reT R (Int.toNat (i : Int))).1 = true ∧ kvW (Sym.rowAt reT R (Int.toNat (i : Int))).2.2.2.2 = true := by rw [show Int.toNat (i : Int) = i from Int.toNat_natCast i]; exact hw.2 i hlt
  have w3 := kvW_len w1
  have w4 := kvW_len w2
  have hp := any_not hb hlt
  obtain ⟨Kr, eK⟩ : ∃ x : Nat, x = List.length (α := KvQ) (Sym.rowAt reT R (Int.toNat (i : Int))).1 := ⟨_, rfl⟩
  obtain ⟨Pr, eP⟩ : ∃ x : Nat, x = List.length (α := KvQ) (Sym.rowAt reT R (Int.toNat (i : Int))).2.2.2.2 := ⟨_, rfl⟩
  obtain ⟨cr, ec⟩ : ∃ x : Int, @Eq Int x (Sym.rowAt reT R (Int.toNat (i : Int))).2.2.1 := ⟨_, rfl⟩
  obtain ⟨dr, ed⟩ : ∃ x : Int, @Eq Int x (Sym.rowAt reT R (Int.toNat (i : Int))).2.2.2.1 := ⟨_, rfl⟩
  obtain ⟨b1, b2, ⟨b3, b4⟩, b5, b6⟩ : Kr ≤ 2000 ∧ Pr ≤ 2000 ∧ (0 ≤ cr ∧ cr ≤ 1073741824) ∧ 0 ≤ dr ∧ dr ≤ 1073741824 := by
   rw [eK, eP, ec, ed, show Int.toNat (i : Int) = i from Int.toNat_natCast i]
   have q : badR (Sym.rowAt reT R i) = !decide _ := badR_eq _ _ _ _ _
   rw [q, Bool.not_eq_false'] at hp
   exact of_decide_eq_true hp
 case' inr =>
  have he : i = R.length := Nat.le_antisymm hi hge
  subst he
 all_goals
  repeat' ((conv => whnf); first | (with_reducible first | (refine W1.o ?_; constructor) | rfl | exact castL_self _ _) | ((with_reducible refine V.same_t ?_); exact rfl) | ((with_reducible refine andB_room ?_ ?_ ?_); (· kernel_rfl); (· (first | omega | (simp only [lens] <;> omega)))) | ((with_reducible refine W2.o ?_; constructor); · (first | with_reducible assumption | omega | (simp only [lens] <;> omega))) | ((with_reducible refine W3.o ?_; constructor); · (first | with_reducible assumption | omega | (simp only [lens] <;> omega))) | ((with_reducible refine W4.o ?_; constructor); · (first | (with_reducible first | assumption | exact decide_eq_true rfl | exact sEq_self _) | ((with_reducible refine eqOK_i ?_); kernel_rfl))) | ((with_reducible refine iteB_f ?_ ?_); · (first | (with_reducible first | assumption | exact decide_eq_true rfl | exact sEq_self _) | ((with_reducible refine eqOK_i ?_); kernel_rfl))) | (refine ⟨⟨i + 1, hlt⟩, ?_, rfl, ?_⟩) | (with_reducible refine CD.wk_au ?_) | (with_reducible refine W5.o ?_; constructor) | ((with_reducible refine W6.o ?_; constructor) <;> intro hB))
  all_goals ((conv => whnf); (try dsimp only); (try simp only [Nat.succ_eq_add_one, Nat.le_eq, castL_self]); (try omega))
  all_goals (try (first | omega | (simp only [lens] <;> omega)))
  all_goals first
   | exact rfl
   | omega
theorem rmr_y (N : Nat) (hw : reW R = true) (hb : anyB badR R = true) : LpD.ok Try.prog N 0 (bodyOf Try.prog 50) ⟨4, [(0, 0)], rmrC er rv cm ha ap te ld tk R 0, .leaf .ret rmrR⟩ := by
 rw [reW_iff] at hw
 have hl := hw.1
 have hfl : fst0 badR R < R.length := by
  rcases ix_in badR R with ⟨_, h2, _⟩ | ⟨_, _, h3⟩
  ·rw [hb] at h2; cases h2
  ·exact h3
 refine LpD.ok_one (b := bodyAt Try.prog 50 4) rfl (loop_W noTab_ok (fuel := 4) (d := 5) (X := { i : Nat // i ≤ fst0 badR R }) (fun x => rmrC er rv cm ha ap te ld tk R x.1) (fun x => fst0 badR R - x.1)
   (fun _ => .leaf .ret rmrR) (fun _ => noLpW) (fun _ => noLp) (fun _ => noLp_ad) (fun _ => noLp_ok _) ?_ ⟨0, Nat.zero_le _⟩)
 rintro ⟨i, hi⟩
 dsimp only
 have hlt : i < R.length := by omega
 obtain ⟨w1, w2⟩ : kvW (Sym.rowAt reT R (Int.toNat (i : Int))).1 = true ∧ kvW (Sym.rowAt reT R (Int.toNat (i : Int))).2.2.2.2 = true := by rw [show Int.toNat (i : Int) = i from Int.toNat_natCast i]; exact hw.2 i hlt
 have w3 := kvW_len w1
 have w4 := kvW_len w2
 obtain ⟨Kr, eK⟩ : ∃ x : Nat, x = List.length (α := KvQ) (Sym.rowAt reT R (Int.toNat (i : Int))).1 := ⟨_, rfl⟩
 obtain ⟨Pr, eP⟩ : ∃ x : Nat, x = List.length (α := KvQ) (Sym.rowAt reT R (Int.toNat (i : Int))).2.2.2.2 := ⟨_, rfl⟩
 obtain ⟨cr, ec⟩ : ∃ x : Int, @Eq Int x (Sym.rowAt reT R (Int.toNat (i : Int))).2.2.1 := ⟨_, rfl⟩
 obtain ⟨dr, ed⟩ : ∃ x : Int, @Eq Int x (Sym.rowAt reT R (Int.toNat (i : Int))).2.2.2.1 := ⟨_, rfl⟩
 have q : badR (Sym.rowAt reT R (Int.toNat (i : Int))) = !decide (Kr ≤ 2000 ∧ Pr ≤ 2000 ∧ (0 ≤ cr ∧ cr ≤ 1073741824) ∧ 0 ≤ dr ∧ dr ≤ 1073741824) := by
  rw [eK, eP, ec, ed]; exact badR_eq _ _ _ _ _
 rcases Nat.lt_or_ge i (fst0 badR R) with hlf | hgf
 case' inl =>
  have hp := fst0_not badR R hlf
  have hp : badR (Sym.rowAt reT R (Int.toNat (i : Int))) = false := by rw [show Int.toNat (i : Int) = i from Int.toNat_natCast i]; exact hp
  rw [q, Bool.not_eq_false'] at hp
  obtain ⟨b1, b2, ⟨b3, b4⟩, b5, b6⟩ := of_decide_eq_true hp
 case' inr =>
  have he : i = fst0 badR R := Nat.le_antisymm hi hgf
  have hp := fst0_is badR R hfl
  rw [← he] at hp
  have hp : badR (Sym.rowAt reT R (Int.toNat (i : Int))) = true := by rw [show Int.toNat (i : Int) = i from Int.toNat_natCast i]; exact hp
  rw [q, Bool.not_eq_true'] at hp
  have hp := of_decide_eq_false hp
 all_goals
  repeat' ((conv => whnf); first | (with_reducible first | (refine W1.o ?_; constructor) | rfl | exact castL_self _ _) | ((with_reducible refine V.same_t ?_); exact rfl) | ((with_reducible refine andB_room ?_ ?_ ?_); (· kernel_rfl); (· (first | omega | (simp only [lens] <;> omega)))) | ((with_reducible refine W2.o ?_; constructor); · (first | with_reducible assumption | omega | (simp only [lens] <;> omega))) | ((with_reducible refine W3.o ?_; constructor); · (first | with_reducible assumption | omega | (simp only [lens] <;> omega))) | ((with_reducible refine W4.o ?_; constructor); · (first | (with_reducible first | assumption | exact decide_eq_true rfl | exact sEq_self _) | ((with_reducible refine eqOK_i ?_); kernel_rfl))) | ((with_reducible refine iteB_f ?_ ?_); · (first | (with_reducible first | assumption | exact decide_eq_true rfl | exact sEq_self _) | ((with_reducible refine eqOK_i ?_); kernel_rfl))) | (refine ⟨⟨i + 1, hlf⟩, ?_, rfl, ?_⟩) | (with_reducible refine CD.wk_au ?_) | (with_reducible refine W5.o ?_; constructor) | ((with_reducible refine W6.o ?_; constructor) <;> intro hB))
  all_goals ((conv => whnf); (try dsimp only); (try simp only [Nat.succ_eq_add_one, Nat.le_eq, castL_self]); (try omega))
  all_goals (try (first | omega | (simp only [lens] <;> omega)))
  all_goals first
   | exact rfl
   | omega
theorem rmayResp_at (wR : reW R = true) : PureAt Try.prog 50 [(.agg [.int .i64 er, .int .u64 rv, .int .u64 cm, .bool tk, .lst reT R false, .int .u32 ha, .int .u64 ap, .int .u64 te, .int .i64 ld])] (.bool (maB er ld R)) := by
 have e := maB_eq er ld R
 have lR := ((reW_iff R).1 wR).1
 cases b2 : anyB badR R with
 | false =>
  refine pure_of_loops noTab_ok (fuel := 4) (d := 5) [⟨4, [(0, 0)], rmrC er rv cm ha ap te ld tk R 0, .leaf (.exit 0) (rmrC er rv cm ha ap te ld tk R R.length)⟩] (fun N y hy => by rw [List.mem_singleton.1 hy]; exact rmr_n er rv cm ha ap te ld tk R N wR b2) ?_
  repeat' ((conv => whnf); first | (with_reducible first | (refine W1.o ?_; constructor) | rfl | exact castL_self _ _) | ((with_reducible refine V.same_t ?_); exact rfl) | ((with_reducible refine andB_room ?_ ?_ ?_); (· kernel_rfl); (· (first | omega | (simp only [lens] <;> omega)))) | ((with_reducible refine W2.o ?_; constructor); · (first | with_reducible assumption | omega | (simp only [lens] <;> omega))) | ((with_reducible refine W3.o ?_; constructor); · (first | with_reducible assumption | omega | (simp only [lens] <;> omega))) | ((with_reducible refine W4.o ?_; constructor); · (first | (with_reducible first | assumption | exact decide_eq_true rfl | exact sEq_self _) | ((with_reducible refine eqOK_i ?_); kernel_rfl))) | ((with_reducible refine iteB_f ?_ ?_); · (first | (with_reducible first | assumption | exact decide_eq_true rfl | exact sEq_self _) | ((with_reducible refine eqOK_i ?_); kernel_rfl))) | (with_reducible refine CD.wk_au ?_) | (with_reducible refine W5.o ?_; constructor) | ((with_reducible refine W6.o ?_; constructor) <;> intro hB))
  all_goals ((conv => whnf); (try dsimp only); (try simp only [Nat.succ_eq_add_one, Nat.le_eq, castL_self]); (try omega))
  all_goals (try (first | omega | (simp only [lens] <;> omega)))
  all_goals (rw [e]; refine congrArg V.bool ?_)
  all_goals (try simp only [cond_true, cond_false, leI_eq, ltI_eq, le_ix, castL_self, b2, eq_self, reduceCtorEq, Bool.not_true, Bool.not_false, and_true, and_false] at *)
  all_goals first
   | exact rfl
   | (refine (decide_eq_true ?_).symm; omega)
   | (refine (decide_eq_false ?_).symm; (first | omega | exact not_false))
   | (refine decide_eq_decide.2 ?_; omega)
   | (rw [← decide_not]; refine decide_eq_decide.2 ?_; omega)
   | (have q : 0 ≤ ixI badR R := by omega
      simp [q]; done)
 | true =>
  refine pure_of_loops noTab_ok (fuel := 4) (d := 5) [⟨4, [(0, 0)], rmrC er rv cm ha ap te ld tk R 0, .leaf .ret rmrR⟩] (fun N y hy => by rw [List.mem_singleton.1 hy]; exact rmr_y er rv cm ha ap te ld tk R N wR b2) ?_
  repeat' ((conv => whnf); first | (with_reducible first | (refine W1.o ?_; constructor) | rfl | exact castL_self _ _) | ((with_reducible refine V.same_t ?_); exact rfl) | ((with_reducible refine andB_room ?_ ?_ ?_); (· kernel_rfl); (· (first | omega | (simp only [lens] <;> omega)))) | ((with_reducible refine W2.o ?_; constructor); · (first | with_reducible assumption | omega | (simp only [lens] <;> omega))) | ((with_reducible refine W3.o ?_; constructor); · (first | with_reducible assumption | omega | (simp only [lens] <;> omega))) | ((with_reducible refine W4.o ?_; constructor); · (first | (with_reducible first | assumption | exact decide_eq_true rfl | exact sEq_self _) | ((with_reducible refine eqOK_i ?_); kernel_rfl))) | ((with_reducible refine iteB_f ?_ ?_); · (first | (with_reducible first | assumption | exact decide_eq_true rfl | exact sEq_self _) | ((with_reducible refine eqOK_i ?_); kernel_rfl))) | (with_reducible refine CD.wk_au ?_) | (with_reducible refine W5.o ?_; constructor) | ((with_reducible refine W6.o ?_; constructor) <;> intro hB))
  all_goals ((conv => whnf); (try dsimp only); (try simp only [Nat.succ_eq_add_one, Nat.le_eq, castL_self]); (try omega))
  all_goals (try (first | omega | (simp only [lens] <;> omega)))
  all_goals (rw [e]; refine congrArg V.bool ?_)
  all_goals (try simp only [cond_true, cond_false, leI_eq, ltI_eq, le_ix, castL_self, b2, eq_self, reduceCtorEq, Bool.not_true, Bool.not_false, and_true, and_false] at *)
  all_goals first
   | exact rfl
   | (refine (decide_eq_true ?_).symm; omega)
   | (refine (decide_eq_false ?_).symm; (first | omega | exact not_false))
   | (refine decide_eq_decide.2 ?_; omega)
   | (rw [← decide_not]; refine decide_eq_decide.2 ?_; omega)
   | (have q : 0 ≤ ixI badR R := by omega
      simp [q]; done)
end
end Go.Proofs.Ytaloolcabmfjbaa
end

noncomputable section
namespace Go.Proofs.Ytaloolcabmfjbaa
open Go.Sym
set_option maxRecDepth 100000
set_option maxHeartbeats 4000000
def tabKv : Tab := oneTab 87 kvlF tabE0
theorem tabKv_ok : TabOK Try.prog tabKv := oneTab_ok kvlF_ok tabE0_ok
theorem layRes_at (s : ByteArray) (K : List KvQ) (m : Bool) (c d : Int) (P : List KvQ) (hs : s.size ≤ 5000000000000000) (wK : kvW K = true) (wP : kvW P = true) : PureAt Try.prog 49 [.str s, (.agg [.lst kvT K false, .bool m, .int .i64 c, .int .i64 d, .lst kvT P false])] (.str (s ++ reY (K, m, c, d, P))) := by
 have e := reY_eq (K, m, c, d, P)
 have yK := kvZ_le K wK K.length (Nat.le_refl _)
 rw [← catZ_eq] at yK
 have z1 := numT_le (tI m)
 have z2 := numT_le (c % 18446744073709551616)
 have z3 := numT_le (d % 18446744073709551616)
 have t1 := tI_in m
 refine pure_of_W0 (tab := tabKv) (fuel := 12) (d := 5) tabKv_ok ?_
 repeat' ((conv => whnf); first | (with_reducible first | (refine W1.o ?_; constructor) | rfl | exact castL_self _ _) | ((with_reducible refine V.same_t ?_); exact rfl) | ((with_reducible refine andB_room ?_ ?_ ?_); (· kernel_rfl); (· (first | omega | (simp only [lens] <;> omega)))) | ((with_reducible refine W2.o ?_; constructor); · (first | with_reducible assumption | omega | (simp only [lens] <;> omega))) | ((with_reducible refine W3.o ?_; constructor); · (first | with_reducible assumption | omega | (simp only [lens] <;> omega))) | ((with_reducible refine W4.o ?_; constructor); · (first | (with_reducible first | assumption | exact decide_eq_true rfl | exact sEq_self _) | ((with_reducible refine eqOK_i ?_); kernel_rfl) | exact wK | exact wP)) | ((with_reducible refine iteB_f ?_ ?_); · (first | (with_reducible first | assumption | exact decide_eq_true rfl | exact sEq_self _) | ((with_reducible refine eqOK_i ?_); kernel_rfl) | exact wK | exact wP)) | ((with_reducible refine W2.o ?_; constructor); · (simp only [Sym.rowAt, List.getD_cons_zero, List.getD_cons_succ, Int.zero_add, Nat.zero_add, Int.reduceToNat, Int.reduceAdd, lens] <;> omega)) | ((with_reducible refine W3.o ?_; constructor); · (simp only [Sym.rowAt, List.getD_cons_zero, List.getD_cons_succ, Int.zero_add, Nat.zero_add, Int.reduceToNat, Int.reduceAdd, lens] <;> omega)) | (with_reducible refine W5.o ?_; constructor) | ((with_reducible refine W6.o ?_; constructor) <;> intro hB))
 all_goals ((conv => whnf); (try dsimp only); (try simp only [Nat.succ_eq_add_one, Nat.le_eq, castL_self]); (try omega))
 all_goals (try (first | omega | (simp only [lens] <;> omega)))
 all_goals first
  | exact rfl
  | (rw [e]; simp only [Sym.rowAt, List.getD_cons_zero, List.getD_cons_succ, Int.zero_add, Nat.zero_add, Int.reduceToNat, Int.reduceAdd, ByteArray.append_assoc]; done)
  | (rw [e]; simp only [Sym.rowAt, List.getD_cons_zero, List.getD_cons_succ, Int.zero_add, Nat.zero_add, Int.reduceToNat, Int.reduceAdd, ByteArray.append_assoc]; exact rfl)
  | (simp only [Sym.rowAt, List.getD_cons_zero, List.getD_cons_succ, Int.zero_add, Nat.zero_add, Int.reduceToNat, Int.reduceAdd, lens] <;> omega)
def lrF (args : List V) : Option (List Bool × V) := match args with
 | [.str s, .agg [k, .bool m, .int .i64 c, .int .i64 d, p]] => (match ofLst kvT k, ofLst kvT p with
   | some K, some P => some ([decide (s.size ≤ 5000000000000000), kvW K, kvW P], .str (s ++ reY (K, m, c, d, P)))
   | _, _ => none)
 | _ => none
theorem lrF_ok (args : List V) (c : List Bool) (v : V) (h : lrF args = some (c, v)) (hc : allB c) : PureAt Try.prog 49 args v := by
 unfold lrF at h
 split at h
 ·split at h
  ·rename_i s k m c d p q1 q2 K Q h1 h2
   cases h
   refine (layRes_at s K m c d Q (of_decide_eq_true hc.1) hc.2.1 hc.2.2.1).weak fun φ X hX => ?_
   exact LRel.cons_of (fun _ h => h) (LRel.cons_of (agg_of (LRel.cons_of (fun _ h => ofLst_rel h1 h) (LRel.cons_of (fun _ h => h) (LRel.cons_of (fun _ h => h) (LRel.cons_of (fun _ h => h) (LRel.cons_of (fun _ h => ofLst_rel h2 h) fun _ h => h)))))) (fun _ h => h)) X hX
  ·cases h
 ·cases h
def tabL : Tab := oneTab 49 lrF tabE0
theorem tabL_ok : TabOK Try.prog tabL := oneTab_ok lrF_ok tabE0_ok
def relC (s : ByteArray) (L : List ReQ) (i : Nat) : CD := ⟨27, [(0, .str (s ++ catA reY L i)), (2, .fn 49 [] []), (15, .lst reT L false), (16, .int .i64 (L.length : Int)), (17, .int .i64 (i : Int))], [], [], 0⟩
theorem rel_at (s : ByteArray) (L : List ReQ) (hs : s.size ≤ 10000) (hw : reW L = true) (hk : L.length ≤ 100) : PureAt Try.prog 48 [.str s, .lst reT L false, .fn 49 [] []] (.str (s ++ catZ reY L)) := by
 have hi := (reW_iff L).1 hw
 have hz : ∀ i, i ≤ L.length → (catA reY L i).size ≤ 4000000000000000 := fun i hi2 => by
  have := catA_le reY L 10000000000000 (fun j hj => reY_le _ (hi.2 j hj).1 (hi.2 j hj).2) i hi2
  omega
 have e0 := catA_0 reY L
 have eZ := catZ_eq reY L
 have z0 := numT_le (L.length : Int)
 have en : (L.length : Int) % 18446744073709551616 = (L.length : Int) := by omega
 have hzL := hz L.length (Nat.le_refl _)
 refine pure_of_loops tabL_ok (fuel := 4) (d := 5) [⟨3, [], relC s L 0, .leaf (.exit 0) (relC s L L.length)⟩] (fun N y hy => ?_) ?_
 ·rw [List.mem_singleton.1 hy]
  refine LpD.ok_one (b := bodyAt Try.prog 48 3) rfl (loop_W tabL_ok (fuel := 4) (d := 5) (X := { i : Nat // i ≤ L.length }) (fun x => relC s L x.1) (fun x => L.length - x.1)
    (fun _ => .leaf (.exit 0) (relC s L L.length)) (fun _ => noLpW) (fun _ => noLp) (fun _ => noLp_ad) (fun _ => noLp_ok _) ?_ ⟨0, Nat.zero_le _⟩)
  rintro ⟨i, hi2⟩
  dsimp only
  have hzi := hz i hi2
  rcases Nat.lt_or_ge i L.length with hlt | hge
  case' inl =>
   have ei : Int.toNat (i : Int) = i := Int.toNat_natCast i
   obtain ⟨w1, w2⟩ : kvW (Sym.rowAt reT L (Int.toNat (i : Int))).1 = true ∧ kvW (Sym.rowAt reT L (Int.toNat (i : Int))).2.2.2.2 = true := by rw [ei]; exact hi.2 i hlt
   have es : catA reY L (i + 1) = catA reY L i ++ reY (Sym.rowAt reT L (Int.toNat (i : Int))) := catA_succ reY L i
  case' inr =>
   have he : i = L.length := Nat.le_antisymm hi2 hge
   subst he
  all_goals
   repeat' ((conv => whnf); first | (with_reducible first | (refine W1.o ?_; constructor) | rfl | exact castL_self _ _) | ((with_reducible refine V.same_t ?_); exact rfl) | ((with_reducible refine andB_room ?_ ?_ ?_); (· kernel_rfl); (· (first | omega | (simp only [lens] <;> omega)))) | ((with_reducible refine W2.o ?_; constructor); · (first | with_reducible assumption | omega | (simp only [lens] <;> omega))) | ((with_reducible refine W3.o ?_; constructor); · (first | with_reducible assumption | omega | (simp only [lens] <;> omega))) | ((with_reducible refine W4.o ?_; constructor); · (first | (with_reducible first | assumption | exact decide_eq_true rfl | exact sEq_self _) | ((with_reducible refine eqOK_i ?_); kernel_rfl) | exact w1 | exact w2)) | ((with_reducible refine iteB_f ?_ ?_); · (first | (with_reducible first | assumption | exact decide_eq_true rfl | exact sEq_self _) | ((with_reducible refine eqOK_i ?_); kernel_rfl) | exact w1 | exact w2)) | (refine ⟨⟨i + 1, hlt⟩, ?_, rfl, ?_⟩) | (with_reducible refine CD.wk_au ?_) | (with_reducible refine W5.o ?_; constructor) | ((with_reducible refine W6.o ?_; constructor) <;> intro hB))
   all_goals ((conv => whnf); (try dsimp only); (try simp only [Nat.succ_eq_add_one, Nat.le_eq, castL_self]); (try omega))
   all_goals (try (first | omega | (simp only [lens] <;> omega)))
   all_goals first
    | exact rfl
    | omega
    | (simp only [lens] <;> omega)
    | (rw [es, ← ByteArray.append_assoc]; done)
    | (rw [es, ← ByteArray.append_assoc]; exact rfl)
 ·repeat' ((conv => whnf); first | (with_reducible first | (refine W1.o ?_; constructor) | rfl | exact castL_self _ _) | ((with_reducible refine V.same_t ?_); exact rfl) | ((with_reducible refine andB_room ?_ ?_ ?_); (· kernel_rfl); (· (first | omega | (simp only [lens] <;> omega)))) | ((with_reducible refine W2.o ?_; constructor); · (first | with_reducible assumption | omega | (simp only [lens] <;> omega))) | ((with_reducible refine W3.o ?_; constructor); · (first | with_reducible assumption | omega | (simp only [lens] <;> omega))) | ((with_reducible refine W4.o ?_; constructor); · (first | (with_reducible first | assumption | exact decide_eq_true rfl | exact sEq_self _) | ((with_reducible refine eqOK_i ?_); kernel_rfl))) | ((with_reducible refine iteB_f ?_ ?_); · (first | (with_reducible first | assumption | exact decide_eq_true rfl | exact sEq_self _) | ((with_reducible refine eqOK_i ?_); kernel_rfl))) | ((with_reducible refine W2.o ?_; constructor); · (simp only [Sym.rowAt, List.getD_cons_zero, List.getD_cons_succ, Int.zero_add, Nat.zero_add, Int.reduceToNat, Int.reduceAdd, lens] <;> omega)) | ((with_reducible refine W3.o ?_; constructor); · (simp only [Sym.rowAt, List.getD_cons_zero, List.getD_cons_succ, Int.zero_add, Nat.zero_add, Int.reduceToNat, Int.reduceAdd, lens] <;> omega)) | (with_reducible refine CD.wk_au ?_) | (with_reducible refine W5.o ?_; constructor) | ((with_reducible refine W6.o ?_; constructor) <;> intro hB))
  all_goals ((conv => whnf); (try dsimp only); (try simp only [Nat.succ_eq_add_one, Nat.le_eq, castL_self]); (try omega))
  all_goals (try (first | omega | (simp only [lens] <;> omega)))
  all_goals first
   | exact rfl
   | (rw [eZ]; done)
   | (simp only [Sym.rowAt, List.getD_cons_zero, List.getD_cons_succ, Int.zero_add, Nat.zero_add, Int.reduceToNat, Int.reduceAdd, en, e0]; done)
def relF (args : List V) : Option (List Bool × V) := match args with
 | [.str s, l, .fn g [] []] => (match ofLst reT l with
   | some L => some ([Nat.beq g 49, decide (s.size ≤ 10000), reW L, decide (L.length ≤ 100)], .str (s ++ catZ reY L))
   | none => none)
 | _ => none
theorem relF_ok (args : List V) (c : List Bool) (v : V) (h : relF args = some (c, v)) (hc : allB c) : PureAt Try.prog 48 args v := by
 unfold relF at h
 split at h
 ·split at h
  ·rename_i s l g q L hl
   cases h
   rw [Nat.eq_of_beq_eq_true hc.1]
   exact PureAt.lst (pre := [.str s]) (rest := [.fn 49 [] []]) (rel_at s L (of_decide_eq_true hc.2.1) hc.2.2.1 (of_decide_eq_true hc.2.2.2.1)) hl
  ·cases h
 ·cases h
abbrev RpF : Type := Int → Int → Int → Bool → List ReQ → Int → Int → Int → Int → List Bool × V
def rpF (f : RpF) (args : List V) : Option (List Bool × V) := match args with
 | [.agg [.int .i64 er, .int .u64 rv, .int .u64 cm, .bool tk, r, .int .u32 ha, .int .u64 ap, .int .u64 te, .int .i64 ld]] => (match ofLst reT r with
   | some R => some (f er rv cm tk R ha ap te ld)
   | none => none)
 | _ => none
theorem rpF_ok {P : Program} {g : FuncId} {f : RpF} (hf : ∀ er rv cm tk R ha ap te ld, allB (f er rv cm tk R ha ap te ld).1 → PureAt P g [(.agg [.int .i64 er, .int .u64 rv, .int .u64 cm, .bool tk, .lst reT R false, .int .u32 ha, .int .u64 ap, .int .u64 te, .int .i64 ld])] (f er rv cm tk R ha ap te ld).2) (args : List V) (c : List Bool) (v : V) (h : rpF f args = some (c, v)) (hc : allB c) : PureAt P g args v := by
 unfold rpF at h
 split at h
 ·split at h
  ·rename_i er rv cm tk r ha ap te ld q R h1
   have e : f er rv cm tk R ha ap te ld = (_, _) := Option.some.inj h
   have hg := hf er rv cm tk R ha ap te ld (by rw [e]; exact hc)
   rw [e] at hg
   refine hg.weak fun φ X hX => ?_
   exact LRel.cons_of (agg_of (LRel.cons_of (fun _ h => h) (LRel.cons_of (fun _ h => h) (LRel.cons_of (fun _ h => h) (LRel.cons_of (fun _ h => h) (LRel.cons_of (fun _ h => ofLst_rel h1 h) fun _ h => h)))))) (fun _ h => h) X hX
  ·cases h
 ·cases h
def maF : RpF := fun er rv cm tk R ha ap te ld => ([reW R], .bool (maB er ld R))
def tabW : Tab := oneTab 47 (rpF maF) (oneTab 48 relF tabE0)
theorem tabW_ok : TabOK Try.prog tabW := oneTab_ok (rpF_ok fun er rv cm tk R ha ap te ld h => mayResp_at er rv cm ha ap te ld tk R h.1) (oneTab_ok relF_ok tabE0_ok)
def tabWr : Tab := oneTab 50 (rpF maF) (oneTab 51 rkvF tabE0r)
theorem tabWr_ok : TabOK Try.prog tabWr := oneTab_ok (rpF_ok fun er rv cm tk R ha ap te ld h => rmayResp_at er rv cm ha ap te ld tk R h.1) (oneTab_ok rkvF_ok tabE0r_ok)
section
variable (er rv cm ha ap te ld : Int) (tk : Bool) (R : List ReQ)
def rph : Int → Int → Int → Bool → Int → Int → Int → Int → ByteArray := hide fun er rv cm tk ha ap te ld => numT (er % 18446744073709551616) ++ (numT rv ++ (numT cm ++ (numT (tI tk) ++ (numT (ha % 18446744073709551616) ++ (numT ap ++ (numT te ++ numT ((ld + 1) % 18446744073709551616)))))))
theorem rph_eq : rph er rv cm tk ha ap te ld = numT (er % 18446744073709551616) ++ (numT rv ++ (numT cm ++ (numT (tI tk) ++ (numT (ha % 18446744073709551616) ++ (numT ap ++ (numT te ++ numT ((ld + 1) % 18446744073709551616))))))) := by unfold rph; rw [hide_eq]
def rpE : Int → Int → Int → Bool → List ReQ → Int → Int → Int → Int → ByteArray := hide fun er rv cm tk R ha ap te ld => bif maB er ld R then rph er rv cm tk ha ap te ld ++ catZ reY R else ⟨#[]⟩
theorem rpE_eq : rpE er rv cm tk R ha ap te ld = bif maB er ld R then rph er rv cm tk ha ap te ld ++ catZ reY R else ⟨#[]⟩ := by unfold rpE; rw [hide_eq]
def maE : Int → Int → List ReQ → Int := hide fun er ld R => bif maB er ld R then 0 else 2
theorem maE_eq : maE er ld R = bif maB er ld R then 0 else 2 := by unfold maE; rw [hide_eq]
theorem encResp_at (wR : reW R = true) (h1 : 0 ≤ rv ∧ rv < 18446744073709551616) (h2 : 0 ≤ cm ∧ cm < 18446744073709551616) (h3 : 0 ≤ ha ∧ ha < 4294967296) (h4 : 0 ≤ ap ∧ ap < 18446744073709551616) (h5 : 0 ≤ te ∧ te < 18446744073709551616) : PureAt Try.prog 17 [(.agg [.int .i64 er, .int .u64 rv, .int .u64 cm, .bool tk, .lst reT R false, .int .u32 ha, .int .u64 ap, .int .u64 te, .int .i64 ld])] (.tup [.str (rpE er rv cm tk R ha ap te ld), .int .i64 (maE er ld R)]) := by
 have zz : ByteArray.size ⟨#[]⟩ = 0 := rfl
 have z1 := numT_le (er % 18446744073709551616)
 have z2 := numT_le rv
 have z3 := numT_le cm
 have z4 := numT_le (tI tk)
 have z5 := numT_le (ha % 18446744073709551616)
 have z6 := numT_le ap
 have z7 := numT_le te
 have z8 := numT_le ((ld + 1) % 18446744073709551616)
 have t4 := tI_in tk
 have e1 := maE_eq er ld R
 have e2 := rpE_eq er rv cm ha ap te ld tk R
 have e4 := rph_eq er rv cm ha ap te ld tk
 refine pure_of_W0 (tab := tabW) (fuel := 12) (d := 5) tabW_ok ?_
 cases hb : maB er ld R with
 | true =>
  rw [hb, cond_true] at e1 e2
  rw [maB_eq] at hb
  obtain ⟨b1, b2, b3, b4, b5, b6⟩ := of_decide_eq_true hb
  rw [← maB_eq] at hb
  repeat' ((conv => whnf); first | (with_reducible first | (refine W1.o ?_; constructor) | rfl | exact castL_self _ _) | ((with_reducible refine V.same_t ?_); exact rfl) | ((with_reducible refine andB_room ?_ ?_ ?_); (· kernel_rfl); (· (first | omega | (simp only [lens] <;> omega)))) | ((with_reducible refine W2.o ?_; constructor); · (first | with_reducible assumption | omega | (simp only [lens] <;> omega))) | ((with_reducible refine W3.o ?_; constructor); · (first | with_reducible assumption | omega | (simp only [lens] <;> omega))) | ((with_reducible refine W4.o ?_; constructor); · (first | (with_reducible first | assumption | exact decide_eq_true rfl | exact sEq_self _) | ((with_reducible refine eqOK_i ?_); kernel_rfl) | exact wR | exact hb)) | ((with_reducible refine iteB_f ?_ ?_); · (first | (with_reducible first | assumption | exact decide_eq_true rfl | exact sEq_self _) | ((with_reducible refine eqOK_i ?_); kernel_rfl) | exact wR | exact hb)) | ((with_reducible refine W2.o ?_; constructor); · (simp only [Sym.rowAt, List.getD_cons_zero, List.getD_cons_succ, Int.zero_add, Nat.zero_add, Int.reduceToNat, Int.reduceAdd, lens] <;> omega)) | ((with_reducible refine W3.o ?_; constructor); · (simp only [Sym.rowAt, List.getD_cons_zero, List.getD_cons_succ, Int.zero_add, Nat.zero_add, Int.reduceToNat, Int.reduceAdd, lens] <;> omega)) | (with_reducible refine W5.o ?_; constructor) | ((with_reducible refine W6.o ?_; constructor) <;> intro hB))
  all_goals ((conv => whnf); (try dsimp only); (try simp only [Nat.succ_eq_add_one, Nat.le_eq, castL_self]); (try omega))
  all_goals (try (first | omega | (simp only [lens] <;> omega)))
  all_goals first
   | exact rfl
   | (rw [e1, e2]; done)
   | (rw [e1, e2]; exact rfl)
   | (rw [e1, e2, e4]; simp only [Sym.rowAt, List.getD_cons_zero, List.getD_cons_succ, Int.zero_add, Nat.zero_add, Int.reduceToNat, Int.reduceAdd, ByteArray.append_assoc, nil_cat]; done)
   | (simp only [Sym.rowAt, List.getD_cons_zero, List.getD_cons_succ, Int.zero_add, Nat.zero_add, Int.reduceToNat, Int.reduceAdd, lens] <;> omega)
   | omega
 | false =>
  rw [hb, cond_false] at e1 e2
  repeat' ((conv => whnf); first | (with_reducible first | (refine W1.o ?_; constructor) | rfl | exact castL_self _ _) | ((with_reducible refine V.same_t ?_); exact rfl) | ((with_reducible refine andB_room ?_ ?_ ?_); (· kernel_rfl); (· (first | omega | (simp only [lens] <;> omega)))) | ((with_reducible refine W2.o ?_; constructor); · (first | with_reducible assumption | omega | (simp only [lens] <;> omega))) | ((with_reducible refine W3.o ?_; constructor); · (first | with_reducible assumption | omega | (simp only [lens] <;> omega))) | ((with_reducible refine W4.o ?_; constructor); · (first | (with_reducible first | assumption | exact decide_eq_true rfl | exact sEq_self _) | ((with_reducible refine eqOK_i ?_); kernel_rfl) | exact wR | exact hb)) | ((with_reducible refine iteB_f ?_ ?_); · (first | (with_reducible first | assumption | exact decide_eq_true rfl | exact sEq_self _) | ((with_reducible refine eqOK_i ?_); kernel_rfl) | exact wR | exact hb)) | ((with_reducible refine W2.o ?_; constructor); · (simp only [Sym.rowAt, List.getD_cons_zero, List.getD_cons_succ, Int.zero_add, Nat.zero_add, Int.reduceToNat, Int.reduceAdd, lens] <;> omega)) | ((with_reducible refine W3.o ?_; constructor); · (simp only [Sym.rowAt, List.getD_cons_zero, List.getD_cons_succ, Int.zero_add, Nat.zero_add, Int.reduceToNat, Int.reduceAdd, lens] <;> omega)) | (with_reducible refine W5.o ?_; constructor) | ((with_reducible refine W6.o ?_; constructor) <;> intro hB))
  all_goals ((conv => whnf); (try dsimp only); (try simp only [Nat.succ_eq_add_one, Nat.le_eq, castL_self]); (try omega))
  all_goals (try (first | omega | (simp only [lens] <;> omega)))
  all_goals first
   | exact rfl
   | (rw [e1, e2]; done)
   | (rw [e1, e2]; exact rfl)
   | (rw [e1, e2, e4]; simp only [Sym.rowAt, List.getD_cons_zero, List.getD_cons_succ, Int.zero_add, Nat.zero_add, Int.reduceToNat, Int.reduceAdd, ByteArray.append_assoc, nil_cat]; done)
   | (simp only [Sym.rowAt, List.getD_cons_zero, List.getD_cons_succ, Int.zero_add, Nat.zero_add, Int.reduceToNat, Int.reduceAdd, lens] <;> omega)
   | omega
def resC (i : Nat) : CD := ⟨79, [(1, .ptr 0 0), (4, .str (rph er rv cm tk ha ap te ld ++ catA reY R i)), (5, .int .i64 (i : Int))], [], rpH er rv cm ha ap te ld tk R, 1⟩
theorem res_lp (hq : (rph er rv cm tk ha ap te ld).size ≤ 100) (N : Nat) (hw : reW R = true) (hk : R.length ≤ 100) : LpD.ok Try.prog N 0 (bodyOf Try.prog 18) ⟨7, [(0, 0)], resC er rv cm ha ap te ld tk R 0, .leaf (.exit 0) (resC er rv cm ha ap te ld tk R R.length)⟩ := by
 have hi := (reW_iff R).1 hw
 have hz : ∀ i, i ≤ R.length → (catA reY R i).size ≤ 4000000000000000 := fun i hi2 => by
  have := catA_le reY R 10000000000000 (fun j hj => reY_le _ (hi.2 j hj).1 (hi.2 j hj).2) i hi2
  omega
 refine LpD.ok_one (b := bodyAt Try.prog 18 7) rfl (loop_W tabWr_ok (fuel := 6) (d := 5) (X := { i : Nat // i ≤ R.length }) (fun x => resC er rv cm ha ap te ld tk R x.1) (fun x => R.length - x.1)
   (fun _ => .leaf (.exit 0) (resC er rv cm ha ap te ld tk R R.length)) (fun _ => noLpW) (fun _ => noLp) (fun _ => noLp_ad) (fun _ => noLp_ok _) ?_ ⟨0, Nat.zero_le _⟩)
 rintro ⟨i, hi2⟩
 dsimp only
 have hzi := hz i hi2
 rcases Nat.lt_or_ge i R.length with hlt | hge
 case' inl =>
  have ei : Int.toNat (i : Int) = i := Int.toNat_natCast i
  obtain ⟨w1, w2⟩ : kvW (Sym.rowAt reT R (Int.toNat (i : Int))).1 = true ∧ kvW (Sym.rowAt reT R (Int.toNat (i : Int))).2.2.2.2 = true := by rw [ei]; exact hi.2 i hlt
  have es : catA reY R (i + 1) = catA reY R i ++ reY (Sym.rowAt reT R (Int.toNat (i : Int))) := catA_succ reY R i
  have ey : reY (Sym.rowAt reT R (Int.toNat (i : Int))) = catZ kvY (Sym.rowAt reT R (Int.toNat (i : Int))).1 ++ (numT (tI (Sym.rowAt reT R (Int.toNat (i : Int))).2.1) ++ (numT (@HMod.hMod Int Int Int _ (Sym.rowAt reT R (Int.toNat (i : Int))).2.2.1 18446744073709551616) ++ (numT (@HMod.hMod Int Int Int _ (Sym.rowAt reT R (Int.toNat (i : Int))).2.2.2.1 18446744073709551616) ++ catZ kvY (Sym.rowAt reT R (Int.toNat (i : Int))).2.2.2.2))) := reY_eq _
  have yK := kvZ_le _ w1 _ (Nat.le_refl _)
  rw [← catZ_eq] at yK
  have yP := kvZ_le _ w2 _ (Nat.le_refl _)
  rw [← catZ_eq] at yP
  have z1 := numT_le (tI (Sym.rowAt reT R (Int.toNat (i : Int))).2.1)
  have z2 := numT_le (@HMod.hMod Int Int Int _ (Sym.rowAt reT R (Int.toNat (i : Int))).2.2.1 18446744073709551616)
  have z3 := numT_le (@HMod.hMod Int Int Int _ (Sym.rowAt reT R (Int.toNat (i : Int))).2.2.2.1 18446744073709551616)
  have t1 := tI_in (Sym.rowAt reT R (Int.toNat (i : Int))).2.1
 case' inr =>
  have he : i = R.length := Nat.le_antisymm hi2 hge
  subst he
 all_goals
  repeat' ((conv => whnf); first | (with_reducible first | (refine W1.o ?_; constructor) | rfl | exact castL_self _ _) | ((with_reducible refine V.same_t ?_); exact rfl) | ((with_reducible refine andB_room ?_ ?_ ?_); (· kernel_rfl); (· (first | omega | (simp only [lens] <;> omega)))) | ((with_reducible refine W2.o ?_; constructor); · (first | with_reducible assumption | omega | (simp only [lens] <;> omega))) | ((with_reducible refine W3.o ?_; constructor); · (first | with_reducible assumption | omega | (simp only [lens] <;> omega))) | ((with_reducible refine W4.o ?_; constructor); · (first | (with_reducible first | assumption | exact decide_eq_true rfl | exact sEq_self _) | ((with_reducible refine eqOK_i ?_); kernel_rfl) | exact w1 | exact w2)) | ((with_reducible refine iteB_f ?_ ?_); · (first | (with_reducible first | assumption | exact decide_eq_true rfl | exact sEq_self _) | ((with_reducible refine eqOK_i ?_); kernel_rfl) | exact w1 | exact w2)) | (refine ⟨⟨i + 1, hlt⟩, ?_, rfl, ?_⟩) | (with_reducible refine CD.wk_au ?_) | (with_reducible refine W5.o ?_; constructor) | ((with_reducible refine W6.o ?_; constructor) <;> intro hB))
  all_goals ((conv => whnf); (try dsimp only); (try simp only [Nat.succ_eq_add_one, Nat.le_eq, castL_self]); (try omega))
  all_goals (try (first | omega | (simp only [lens] <;> omega)))
  all_goals first
   | exact rfl
   | omega
   | (simp only [lens] <;> omega)
   | (rw [es, ey]; simp only [ByteArray.append_assoc]; done)
   | (rw [es, ey]; simp only [ByteArray.append_assoc]; exact rfl)
theorem rencResp_at (wR : reW R = true) (h1 : 0 ≤ rv ∧ rv < 18446744073709551616) (h2 : 0 ≤ cm ∧ cm < 18446744073709551616) (h3 : 0 ≤ ha ∧ ha < 4294967296) (h4 : 0 ≤ ap ∧ ap < 18446744073709551616) (h5 : 0 ≤ te ∧ te < 18446744073709551616) : PureAt Try.prog 18 [(.agg [.int .i64 er, .int .u64 rv, .int .u64 cm, .bool tk, .lst reT R false, .int .u32 ha, .int .u64 ap, .int .u64 te, .int .i64 ld])] (.tup [.str (rpE er rv cm tk R ha ap te ld), .int .i64 (maE er ld R)]) := by
 have zz : ByteArray.size ⟨#[]⟩ = 0 := rfl
 have z1 := numT_le (er % 18446744073709551616)
 have z2 := numT_le rv
 have z3 := numT_le cm
 have z4 := numT_le (tI tk)
 have z5 := numT_le (ha % 18446744073709551616)
 have z6 := numT_le ap
 have z7 := numT_le te
 have z8 := numT_le ((ld + 1) % 18446744073709551616)
 have t4 := tI_in tk
 have e1 := maE_eq er ld R
 have e2 := rpE_eq er rv cm ha ap te ld tk R
 have e4 := rph_eq er rv cm ha ap te ld tk
 have hq : (rph er rv cm tk ha ap te ld).size ≤ 100 := by rw [e4]; simp only [ByteArray.size_append]; omega
 have c0 := catA_0 reY R
 have cZ := catZ_eq reY R
 have y0 := numT_le (R.length : Int)
 cases hb : maB er ld R with
 | true =>
  rw [hb, cond_true] at e1 e2
  rw [maB_eq] at hb
  obtain ⟨b1, b2, b3, b4, b5, b6⟩ := of_decide_eq_true hb
  rw [← maB_eq] at hb
  have en : (R.length : Int) % 18446744073709551616 = (R.length : Int) := by omega
  refine pure_of_loops tabWr_ok (fuel := 6) (d := 5) [⟨7, [(0, 0)], resC er rv cm ha ap te ld tk R 0, .leaf (.exit 0) (resC er rv cm ha ap te ld tk R R.length)⟩] (fun N y hy => by rw [List.mem_singleton.1 hy]; exact res_lp er rv cm ha ap te ld tk R hq N wR (by omega)) ?_
  repeat' ((conv => whnf); first | (with_reducible first | (refine W1.o ?_; constructor) | rfl | exact castL_self _ _) | ((with_reducible refine V.same_t ?_); exact rfl) | ((with_reducible refine andB_room ?_ ?_ ?_); (· kernel_rfl); (· (first | omega | (simp only [lens] <;> omega)))) | ((with_reducible refine W2.o ?_; constructor); · (first | with_reducible assumption | omega | (simp only [lens] <;> omega))) | ((with_reducible refine W3.o ?_; constructor); · (first | with_reducible assumption | omega | (simp only [lens] <;> omega))) | ((with_reducible refine W4.o ?_; constructor); · (first | (with_reducible first | assumption | exact decide_eq_true rfl | exact sEq_self _) | ((with_reducible refine eqOK_i ?_); kernel_rfl) | exact wR | exact hb)) | ((with_reducible refine iteB_f ?_ ?_); · (first | (with_reducible first | assumption | exact decide_eq_true rfl | exact sEq_self _) | ((with_reducible refine eqOK_i ?_); kernel_rfl) | exact wR | exact hb)) | ((with_reducible refine W2.o ?_; constructor); · (simp only [Sym.rowAt, List.getD_cons_zero, List.getD_cons_succ, Int.zero_add, Nat.zero_add, Int.reduceToNat, Int.reduceAdd, lens] <;> omega)) | ((with_reducible refine W3.o ?_; constructor); · (simp only [Sym.rowAt, List.getD_cons_zero, List.getD_cons_succ, Int.zero_add, Nat.zero_add, Int.reduceToNat, Int.reduceAdd, lens] <;> omega)) | (with_reducible refine CD.wk_au ?_) | (with_reducible refine W5.o ?_; constructor) | ((with_reducible refine W6.o ?_; constructor) <;> intro hB))
  all_goals ((conv => whnf); (try dsimp only); (try simp only [Nat.succ_eq_add_one, Nat.le_eq, castL_self]); (try omega))
  all_goals (try (first | omega | (simp only [lens] <;> omega)))
  all_goals first
   | exact rfl
   | (rw [e1]; done)
   | (rw [e1, e2, cZ]; done)
   | (rw [e2, cZ]; done)
   | (simp only [en]; rw [c0, e4]; simp only [ByteArray.append_assoc, nil_cat]; done)
   | (simp only [Sym.rowAt, List.getD_cons_zero, List.getD_cons_succ, Int.zero_add, Nat.zero_add, Int.reduceToNat, Int.reduceAdd, lens] <;> omega)
   | omega
 | false =>
  rw [hb, cond_false] at e1 e2
  refine pure_of_W0 (tab := tabWr) (fuel := 6) (d := 5) tabWr_ok ?_
  repeat' ((conv => whnf); first | (with_reducible first | (refine W1.o ?_; constructor) | rfl | exact castL_self _ _) | ((with_reducible refine V.same_t ?_); exact rfl) | ((with_reducible refine andB_room ?_ ?_ ?_); (· kernel_rfl); (· (first | omega | (simp only [lens] <;> omega)))) | ((with_reducible refine W2.o ?_; constructor); · (first | with_reducible assumption | omega | (simp only [lens] <;> omega))) | ((with_reducible refine W3.o ?_; constructor); · (first | with_reducible assumption | omega | (simp only [lens] <;> omega))) | ((with_reducible refine W4.o ?_; constructor); · (first | (with_reducible first | assumption | exact decide_eq_true rfl | exact sEq_self _) | ((with_reducible refine eqOK_i ?_); kernel_rfl) | exact wR | exact hb)) | ((with_reducible refine iteB_f ?_ ?_); · (first | (with_reducible first | assumption | exact decide_eq_true rfl | exact sEq_self _) | ((with_reducible refine eqOK_i ?_); kernel_rfl) | exact wR | exact hb)) | ((with_reducible refine W2.o ?_; constructor); · (simp only [Sym.rowAt, List.getD_cons_zero, List.getD_cons_succ, Int.zero_add, Nat.zero_add, Int.reduceToNat, Int.reduceAdd, lens] <;> omega)) | ((with_reducible refine W3.o ?_; constructor); · (simp only [Sym.rowAt, List.getD_cons_zero, List.getD_cons_succ, Int.zero_add, Nat.zero_add, Int.reduceToNat, Int.reduceAdd, lens] <;> omega)) | (with_reducible refine CD.wk_au ?_) | (with_reducible refine W5.o ?_; constructor) | ((with_reducible refine W6.o ?_; constructor) <;> intro hB))
  all_goals ((conv => whnf); (try dsimp only); (try simp only [Nat.succ_eq_add_one, Nat.le_eq, castL_self]); (try omega))
  all_goals (try (first | omega | (simp only [lens] <;> omega)))
  all_goals first
   | exact rfl
   | (rw [e1, e2]; done)
   | (rw [e1, e2]; exact rfl)
   | (rw [e1, e2, e4]; simp only [Sym.rowAt, List.getD_cons_zero, List.getD_cons_succ, Int.zero_add, Nat.zero_add, Int.reduceToNat, Int.reduceAdd, ByteArray.append_assoc, nil_cat]; done)
   | (simp only [Sym.rowAt, List.getD_cons_zero, List.getD_cons_succ, Int.zero_add, Nat.zero_add, Int.reduceToNat, Int.reduceAdd, lens] <;> omega)
   | omega
end
end Go.Proofs.Ytaloolcabmfjbaa
end

noncomputable section
namespace Go.Proofs.Ytaloolcabmfjbaa
open Go.Sym
set_option maxRecDepth 100000
set_option maxHeartbeats 4000000
abbrev RpT : Type := Int × Int × Int × Bool × List ReQ × Int × Int × Int × Int
abbrev rpG (r : RpT) : V := .agg [.int .i64 r.1, .int .u64 r.2.1, .int .u64 r.2.2.1, .bool r.2.2.2.1, .lst reT r.2.2.2.2.1 false, .int .u32 r.2.2.2.2.2.1, .int .u64 r.2.2.2.2.2.2.1, .int .u64 r.2.2.2.2.2.2.2.1, .int .i64 r.2.2.2.2.2.2.2.2]
abbrev yS8 (s : ByteArray) : ByteArray := (numR (numR (numR (numR (numR (numR (numR (numR s))))))))
abbrev yB8 (s : ByteArray) : Bool := ((((((((false || numB s) || numB (numR s)) || numB (numR (numR s))) || numB (numR (numR (numR s)))) || numB (numR (numR (numR (numR s))))) || numB (numR (numR (numR (numR (numR s)))))) || numB (numR (numR (numR (numR (numR (numR s))))))) || numB (numR (numR (numR (numR (numR (numR (numR s))))))))
abbrev yS9 (s : ByteArray) : ByteArray := reE (yS8 s)
abbrev yB9 (s : ByteArray) : Bool := yB8 s || numB (yS8 s)
def dp0 (s : ByteArray) : RpT := (numV s, numV (numR s), numV (numR (numR s)), decide (numV (numR (numR (numR s))) = 1), reL (yS8 s), numV (numR (numR (numR (numR s)))) % 4294967296, numV (numR (numR (numR (numR (numR s))))), numV (numR (numR (numR (numR (numR (numR s)))))), numV (numR (numR (numR (numR (numR (numR (numR s))))))) - 1)
theorem zero_rp {P : Program} {g : FuncId} {args : List V} {e : Int} (h : PureAt P g args (.tup [.agg [.int .i64 0, .int .u64 0, .int .u64 0, .bool false, .nils, .int .u32 0, .int .u64 0, .int .u64 0, .int .i64 0], .int .i64 e])) : PureAt P g args (.tup [rpG (0, 0, 0, false, [], 0, 0, 0, 0), .int .i64 e]) :=
 PureAt.val h fun φ => tup_of (LRel.cons_of (agg_of (LRel.cons_of (fun _ h => h) (LRel.cons_of (fun _ h => h) (LRel.cons_of (fun _ h => h) (LRel.cons_of (fun _ h => h) (LRel.cons_of (fun _ h => ofLst_rel (e := reT) (a := .nils) rfl h) fun _ h => h)))))) fun _ h => h)
def dpK : ByteArray → Bool := hide fun s => leI (numV s) 1073741824 && leI (numV (numR (numR (numR s)))) 1 && leI (numV (numR (numR (numR (numR (numR (numR (numR s)))))))) 1073741824 && reS (yS8 s) (yB8 s) && !(yB9 s) && sEq (yS9 s) ⟨#[]⟩ && maB (numV s) (numV (numR (numR (numR (numR (numR (numR (numR s))))))) - 1) (reL (yS8 s)) && sEq (rpE (numV s) (numV (numR s)) (numV (numR (numR s))) (decide (numV (numR (numR (numR s))) = 1)) (reL (yS8 s)) (numV (numR (numR (numR (numR s)))) % 4294967296) (numV (numR (numR (numR (numR (numR s)))))) (numV (numR (numR (numR (numR (numR (numR s))))))) (numV (numR (numR (numR (numR (numR (numR (numR s))))))) - 1)) s
theorem dpK_eq (s : ByteArray) : dpK s = (leI (numV s) 1073741824 && leI (numV (numR (numR (numR s)))) 1 && leI (numV (numR (numR (numR (numR (numR (numR (numR s)))))))) 1073741824 && reS (yS8 s) (yB8 s) && !(yB9 s) && sEq (yS9 s) ⟨#[]⟩ && maB (numV s) (numV (numR (numR (numR (numR (numR (numR (numR s))))))) - 1) (reL (yS8 s)) && sEq (rpE (numV s) (numV (numR s)) (numV (numR (numR s))) (decide (numV (numR (numR (numR s))) = 1)) (reL (yS8 s)) (numV (numR (numR (numR (numR s)))) % 4294967296) (numV (numR (numR (numR (numR (numR s)))))) (numV (numR (numR (numR (numR (numR (numR s))))))) (numV (numR (numR (numR (numR (numR (numR (numR s))))))) - 1)) s) := by unfold dpK; rw [hide_eq]
def dpV : ByteArray → RpT := hide fun s => bif dpK s then dp0 s else (0, 0, 0, false, [], 0, 0, 0, 0)
theorem dpV_eq (s : ByteArray) : dpV s = bif dpK s then dp0 s else (0, 0, 0, false, [], 0, 0, 0, 0) := by unfold dpV; rw [hide_eq]
def dpE : ByteArray → Int := hide fun s => bif dpK s then 0 else 4
theorem dpE_eq (s : ByteArray) : dpE s = bif dpK s then 0 else 4 := by unfold dpE; rw [hide_eq]
def erqF : RpF := fun er rv cm tk R ha ap te ld => ([reW R, leI 0 rv, ltI rv 18446744073709551616, leI 0 cm, ltI cm 18446744073709551616, leI 0 ha, ltI ha 4294967296, leI 0 ap, ltI ap 18446744073709551616, leI 0 te, ltI te 18446744073709551616], .tup [.str (rpE er rv cm tk R ha ap te ld), .int .i64 (maE er ld R)])
def tabDr : Tab := oneTab 17 (rpF erqF) noTab
theorem tabDr_ok : TabOK Try.prog tabDr := oneTab_ok (rpF_ok fun er rv cm tk R ha ap te ld h => by
    obtain ⟨c0, a1, b1, a2, b2, a3, b3, a4, b4, a5, b5, _⟩ := h
    exact encResp_at er rv cm ha ap te ld tk R c0 ⟨of_leI a1, of_ltI b1⟩ ⟨of_leI a2, of_ltI b2⟩ ⟨of_leI a3, of_ltI b3⟩ ⟨of_leI a4, of_ltI b4⟩ ⟨of_leI a5, of_ltI b5⟩) noTab_ok
def htDr : HTab := oneXT 71 1 false (svXF 72 reS (fun s => .lst reT (reL s) false) reE) htS
theorem htDr_ok : HTabOK Try.prog htDr := oneXT_ok (svXF_ok (fun s bad t hs h => res_ret s bad t hs h) fun s bad t hs h => res_pan s bad t hs h) htS_ok
theorem reL_W {s : ByteArray} {b : Bool} (hs : s.size ≤ 1000000) (h : reS s b = true) : reW (reL s) = true := by
 rw [reS_eq, Bool.and_eq_true, List.all_eq_true] at h
 have hg := fun j (hj : j < (numV s).toNat) => h.2 j (List.mem_range.2 hj)
 have hn := reI_size s (b || numB s) (numV s).toNat hg
 rw [reW_iff, reL_eq, reN_len]
 refine ⟨by omega, fun i hi => ?_⟩
 have er : Sym.rowAt reT (reN s (numV s).toNat) i = reV (reI s i) := by
  rw [reN_eq, Sym.rowAt, List.getD_eq_getElem?_getD, List.getElem?_map, List.getElem?_range hi]; rfl
 rw [er, reV_eq]
 have hz := reI_size s (b || numB s) i fun j hj => hg j (by omega)
 have hk := hg i hi
 unfold reD at hk
 rw [Bool.and_eq_true] at hk
 have hk := hk.1
 rw [reK_eq] at hk
 simp only [Bool.and_eq_true] at hk
 obtain ⟨⟨⟨⟨m0, m1⟩, m2⟩, m3⟩, m4⟩ := hk
 have z0 := kvE_size (reI s i) (b || numB s) m0
 have z1 := numR_size (kvE (reI s i))
 have z2 := numR_size (numR (kvE (reI s i)))
 have z3 := numR_size (numR (numR (kvE (reI s i))))
 exact ⟨kvL_W (by omega) m0, kvL_W (by omega) m4⟩
theorem maE_of (er ld : Int) (R : List ReQ) : maE er ld R = bif maB er ld R then 0 else 2 := maE_eq er ld R
theorem decResp_at (s : ByteArray) (hs : s.size ≤ 1000000) : PureAt Try.prog 21 [.str s] (.tup [rpG (dpV s), .int .i64 (dpE s)]) := by
 have y0 := numV_in s
 have z0 := numR_size s
 have y1 := numV_in (numR s)
 have z1 := numR_size (numR s)
 have y2 := numV_in (numR (numR s))
 have z2 := numR_size (numR (numR s))
 have y3 := numV_in (numR (numR (numR s)))
 have z3 := numR_size (numR (numR (numR s)))
 have y4 := numV_in (numR (numR (numR (numR s))))
 have z4 := numR_size (numR (numR (numR (numR s))))
 have y5 := numV_in (numR (numR (numR (numR (numR s)))))
 have z5 := numR_size (numR (numR (numR (numR (numR s)))))
 have y6 := numV_in (numR (numR (numR (numR (numR (numR s))))))
 have z6 := numR_size (numR (numR (numR (numR (numR (numR s))))))
 have y7 := numV_in (numR (numR (numR (numR (numR (numR (numR s)))))))
 have z7 := numR_size (numR (numR (numR (numR (numR (numR (numR s)))))))
 have ec := maE_of (numV s) (numV (numR (numR (numR (numR (numR (numR (numR s))))))) - 1) (reL (numR (numR (numR (numR (numR (numR (numR (numR s)))))))))
 cases m0 : leI (numV s) 1073741824
 case' false =>
  have q : dpK s = false := by simp only [dpK_eq, Bool.and_false, Bool.false_and, Bool.true_and, Bool.and_true, Bool.not_true, Bool.not_false, m0]
  have e1 := dpV_eq s
  have e2 := dpE_eq s
  rw [q, cond_false] at e1 e2
  rw [e1, e2]
  refine zero_rp ?_
  have l0 := of_leI' m0
 case' true =>
  have l0 := of_leI m0
  cases m1 : leI (numV (numR (numR (numR s)))) 1
  case' false =>
   have q : dpK s = false := by simp only [dpK_eq, Bool.and_false, Bool.false_and, Bool.true_and, Bool.and_true, Bool.not_true, Bool.not_false, m0, m1]
   have e1 := dpV_eq s
   have e2 := dpE_eq s
   rw [q, cond_false] at e1 e2
   rw [e1, e2]
   refine zero_rp ?_
   have l1 := of_leI' m1
  case' true =>
   have l1 := of_leI m1
   cases m2 : leI (numV (numR (numR (numR (numR (numR (numR (numR s)))))))) 1073741824
   case' false =>
    have q : dpK s = false := by simp only [dpK_eq, Bool.and_false, Bool.false_and, Bool.true_and, Bool.and_true, Bool.not_true, Bool.not_false, m0, m1, m2]
    have e1 := dpV_eq s
    have e2 := dpE_eq s
    rw [q, cond_false] at e1 e2
    rw [e1, e2]
    refine zero_rp ?_
    have l2 := of_leI' m2
   case' true =>
    have l2 := of_leI m2
    cases m3 : reS (yS8 s) (yB8 s)
    case' false =>
     have q : dpK s = false := by simp only [dpK_eq, Bool.and_false, Bool.false_and, Bool.true_and, Bool.and_true, Bool.not_true, Bool.not_false, m0, m1, m2, m3]
     have e1 := dpV_eq s
     have e2 := dpE_eq s
     rw [q, cond_false] at e1 e2
     rw [e1, e2]
     refine zero_rp ?_
    case' true =>
     have w3 := reL_W (s := (numR (numR (numR (numR (numR (numR (numR (numR s))))))))) (b := (yB8 s)) (by omega) m3
     have x3 := reE_size (numR (numR (numR (numR (numR (numR (numR (numR s)))))))) (yB8 s) m3
     cases m4 : (yB9 s)
     case' true =>
      have q : dpK s = false := by simp only [dpK_eq, Bool.and_false, Bool.false_and, Bool.true_and, Bool.and_true, Bool.not_true, Bool.not_false, m0, m1, m2, m3, m4]
      have e1 := dpV_eq s
      have e2 := dpE_eq s
      rw [q, cond_false] at e1 e2
      rw [e1, e2]
      refine zero_rp ?_
     case' false =>
      cases m5 : sEq (yS9 s) ⟨#[]⟩
      case' false =>
       have q : dpK s = false := by simp only [dpK_eq, Bool.and_false, Bool.false_and, Bool.true_and, Bool.and_true, Bool.not_true, Bool.not_false, m0, m1, m2, m3, m4, m5]
       have e1 := dpV_eq s
       have e2 := dpE_eq s
       rw [q, cond_false] at e1 e2
       rw [e1, e2]
       refine zero_rp ?_
      case' true =>
       cases m6 : maB (numV s) (numV (numR (numR (numR (numR (numR (numR (numR s))))))) - 1) (reL (yS8 s))
       case' false =>
        rw [m6, cond_false] at ec
        have q : dpK s = false := by simp only [dpK_eq, Bool.and_false, Bool.false_and, Bool.true_and, Bool.and_true, Bool.not_true, Bool.not_false, m0, m1, m2, m3, m4, m5, m6]
        have e1 := dpV_eq s
        have e2 := dpE_eq s
        rw [q, cond_false] at e1 e2
        rw [e1, e2]
        refine zero_rp ?_
       case' true =>
        rw [m6, cond_true] at ec
        cases m7 : sEq (rpE (numV s) (numV (numR s)) (numV (numR (numR s))) (decide (numV (numR (numR (numR s))) = 1)) (reL (yS8 s)) (numV (numR (numR (numR (numR s)))) % 4294967296) (numV (numR (numR (numR (numR (numR s)))))) (numV (numR (numR (numR (numR (numR (numR s))))))) (numV (numR (numR (numR (numR (numR (numR (numR s))))))) - 1)) s
        case' false =>
         have q : dpK s = false := by simp only [dpK_eq, Bool.and_false, Bool.false_and, Bool.true_and, Bool.and_true, Bool.not_true, Bool.not_false, m0, m1, m2, m3, m4, m5, m6, m7]
         have e1 := dpV_eq s
         have e2 := dpE_eq s
         rw [q, cond_false] at e1 e2
         rw [e1, e2]
         refine zero_rp ?_
        case' true =>
         have q : dpK s = true := by simp only [dpK_eq, Bool.and_true, Bool.not_false, m0, m1, m2, m3, m4, m5, m6, m7]
         have e1 := dpV_eq s
         have e2 := dpE_eq s
         rw [q, cond_true] at e1 e2
 all_goals
  refine pure_of_H htDr_ok tabDr_ok (fuel := 5) (d := 7) [] (fun _ _ h => by cases h) ?_
  repeat' ((conv => whnf); first | (with_reducible first | (refine W1.o ?_; constructor) | rfl | exact castL_self _ _) | ((with_reducible refine V.same_t ?_); exact rfl) | ((with_reducible refine andB_room ?_ ?_ ?_); (· kernel_rfl); (· (first | omega | (simp only [lens] <;> omega)))) | ((with_reducible refine W2.o ?_; constructor); · (first | with_reducible assumption | omega | (simp only [lens] <;> omega))) | ((with_reducible refine W3.o ?_; constructor); · (first | with_reducible assumption | omega | (simp only [lens] <;> omega))) | ((with_reducible refine W4.o ?_; constructor); · (first | (with_reducible first | assumption | exact decide_eq_true rfl | exact sEq_self _) | ((with_reducible refine eqOK_i ?_); kernel_rfl) | exact rfl | exact m3 | exact w3 | exact m4 | exact m5 | exact m6 | exact m7)) | ((with_reducible refine iteB_f ?_ ?_); · (first | (with_reducible first | assumption | exact decide_eq_true rfl | exact sEq_self _) | ((with_reducible refine eqOK_i ?_); kernel_rfl) | exact rfl | exact m3 | exact w3 | exact m4 | exact m5 | exact m6 | exact m7)) | (with_reducible refine CD.wk_au ?_) | (with_reducible refine W5.o ?_; constructor) | ((with_reducible refine W6.o ?_; constructor) <;> intro hB))
  all_goals ((conv => whnf); (try dsimp only); (try simp only [Nat.succ_eq_add_one, Nat.le_eq, castL_self]); (try omega))
  all_goals (try (first | omega | (simp only [lens] <;> omega)))
  all_goals first
   | exact rfl
   | (rw [e1, e2]; done)
   | (rw [e1, e2]; exact rfl)
   | (rw [e1]; exact rfl)
   | exact e2.symm
end Go.Proofs.Ytaloolcabmfjbaa
end
