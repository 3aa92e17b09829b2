/-
  Texts of this claim, one behind the other: CdAny CdChk. Each says its own conditions.
-/
import Derived.Test.YtaloolcabmfjbaaCdrM8
import Derived.Test.YtaloolcabmfjbaaCdrM11

set_option linter.unusedVariables false
set_option linter.unusedSimpArgs false
set_option linter.unusedSectionVars false
noncomputable section
namespace Go.Proofs.Ytaloolcabmfjbaa
open Go.Sym
set_option maxRecDepth 100000
set_option maxHeartbeats 4000000
def opF (p : OpQ → Bool) (args : List V) : Option (List Bool × V) := match args with
 | [.agg [.int .i64 k, .str key, .str en, .str val, .int .u64 rev, .int .i64 lim, .bool cnt, .bool ks, .bool pv]] => some ([leI 0 rev, decide (key.size ≤ 1000000000), decide (en.size ≤ 1000000000), decide (val.size ≤ 1000000000)], .bool (p (k, key, en, val, rev, lim, cnt, ks, pv)))
 | _ => none
theorem opF_ok {P : Program} {g : FuncId} {p : OpQ → Bool} (h : ∀ (k : Int) (key en val : ByteArray) (rev lim : Int) (cnt ks pv : Bool), 0 ≤ rev → key.size ≤ 1000000000 → en.size ≤ 1000000000 → val.size ≤ 1000000000 → PureAt P g [opG (k, key, en, val, rev, lim, cnt, ks, pv)] (.bool (p (k, key, en, val, rev, lim, cnt, ks, pv))))
  (args : List V) (c : List Bool) (v : V) (hv : opF p args = some (c, v)) (hc : allB c) : PureAt P g args v := by
 unfold opF at hv
 split at hv
 ·cases hv
  obtain ⟨c1, c2, c3, c4, _⟩ := hc
  exact h _ _ _ _ _ _ _ _ _ (of_leI c1) (of_decide_eq_true c2) (of_decide_eq_true c3) (of_decide_eq_true c4)
 ·cases hv
def cmF (p : CmQ → Bool) (args : List V) : Option (List Bool × V) := match args with
 | [.agg [.str key, .int .i64 w, .int .i64 h, .int .u64 n, .str val]] => some ([leI 0 n, decide (key.size ≤ 1000000000), decide (val.size ≤ 1000000000)], .bool (p (key, w, h, n, val)))
 | _ => none
theorem cmF_ok {P : Program} {g : FuncId} {p : CmQ → Bool} (h : ∀ (key : ByteArray) (w h n : Int) (val : ByteArray), 0 ≤ n → key.size ≤ 1000000000 → val.size ≤ 1000000000 → PureAt P g [cmG (key, w, h, n, val)] (.bool (p (key, w, h, n, val))))
  (args : List V) (c : List Bool) (v : V) (hv : cmF p args = some (c, v)) (hc : allB c) : PureAt P g args v := by
 unfold cmF at hv
 split at hv
 ·cases hv
  obtain ⟨c1, c2, c3, _⟩ := hc
  exact h _ _ _ _ _ (of_leI c1) (of_decide_eq_true c2) (of_decide_eq_true c3)
 ·cases hv
def tabM1 : Tab := oneTab 42 (opF chgO) (oneTab 80 (opF mayO) (oneTab 104 (cmF mayC) (oneTab 83 (opF mayO) (oneTab 101 (cmF mayC) noTab))))
theorem tabM1_ok : TabOK Try.prog tabM1 := oneTab_ok (opF_ok fun k key en val rev lim cnt ks pv _ _ _ _ => chg_at k key en val rev lim cnt ks pv) (oneTab_ok (opF_ok mayO_at) (oneTab_ok (cmF_ok mayC_at) (oneTab_ok (opF_ok rmayO_at) (oneTab_ok (cmF_ok rmayC_at) noTab_ok))))
theorem badO_at (k : Int) (key en val : ByteArray) (rev lim : Int) (cnt ks pv : Bool) (hr : 0 ≤ rev) (z1 : key.size ≤ 1000000000) (z2 : en.size ≤ 1000000000) (z3 : val.size ≤ 1000000000) : PureAt Try.prog 79 [opG (k, key, en, val, rev, lim, cnt, ks, pv)] (.bool (badO (k, key, en, val, rev, lim, cnt, ks, pv))) := by
 have e := badO_eq (k, key, en, val, rev, lim, cnt, ks, pv)
 refine pure_of_W0 (tab := tabM1) (fuel := 4) (d := 4) tabM1_ok ?_
 repeat' ((conv => whnf); first | (with_reducible first | (refine W1.o ?_; constructor) | rfl | exact castL_self _ _) | ((with_reducible refine V.same_t ?_); exact rfl) | ((with_reducible refine andB_room ?_ ?_ ?_); (· kernel_rfl); (· (first | omega | (simp only [lens] <;> omega)))) | ((with_reducible refine W2.o ?_; constructor); · (first | with_reducible assumption | omega | (simp only [lens] <;> omega))) | ((with_reducible refine W3.o ?_; constructor); · (first | with_reducible assumption | omega | (simp only [lens] <;> omega))) | ((with_reducible refine W4.o ?_; constructor); · (first | (with_reducible first | assumption | exact decide_eq_true rfl | exact sEq_self _) | ((with_reducible refine eqOK_i ?_); kernel_rfl))) | ((with_reducible refine iteB_f ?_ ?_); · (first | (with_reducible first | assumption | exact decide_eq_true rfl | exact sEq_self _) | ((with_reducible refine eqOK_i ?_); kernel_rfl))) | (with_reducible refine W5.o ?_; constructor) | ((with_reducible refine W6.o ?_; constructor) <;> intro hB))
 all_goals ((conv => whnf); (try dsimp only); (try simp only [Nat.succ_eq_add_one, Nat.le_eq, castL_self]); (try omega))
 all_goals (try (first | omega | (simp only [lens] <;> omega)))
 all_goals first
  | (rw [e]; done)
  | (rw [e]; exact rfl)
theorem badC_at (key : ByteArray) (w h n : Int) (val : ByteArray) (hn : 0 ≤ n) (z1 : key.size ≤ 1000000000) (z3 : val.size ≤ 1000000000) : PureAt Try.prog 100 [cmG (key, w, h, n, val)] (.bool (badC (key, w, h, n, val))) := by
 have e := badC_eq (key, w, h, n, val)
 refine pure_of_W0 (tab := tabM1) (fuel := 4) (d := 4) tabM1_ok ?_
 repeat' ((conv => whnf); first | (with_reducible first | (refine W1.o ?_; constructor) | rfl | exact castL_self _ _) | ((with_reducible refine V.same_t ?_); exact rfl) | ((with_reducible refine andB_room ?_ ?_ ?_); (· kernel_rfl); (· (first | omega | (simp only [lens] <;> omega)))) | ((with_reducible refine W2.o ?_; constructor); · (first | with_reducible assumption | omega | (simp only [lens] <;> omega))) | ((with_reducible refine W3.o ?_; constructor); · (first | with_reducible assumption | omega | (simp only [lens] <;> omega))) | ((with_reducible refine W4.o ?_; constructor); · (first | (with_reducible first | assumption | exact decide_eq_true rfl | exact sEq_self _) | ((with_reducible refine eqOK_i ?_); kernel_rfl))) | ((with_reducible refine iteB_f ?_ ?_); · (first | (with_reducible first | assumption | exact decide_eq_true rfl | exact sEq_self _) | ((with_reducible refine eqOK_i ?_); kernel_rfl))) | (with_reducible refine W5.o ?_; constructor) | ((with_reducible refine W6.o ?_; constructor) <;> intro hB))
 all_goals ((conv => whnf); (try dsimp only); (try simp only [Nat.succ_eq_add_one, Nat.le_eq, castL_self]); (try omega))
 all_goals (try (first | omega | (simp only [lens] <;> omega)))
 all_goals first
  | (rw [e]; done)
  | (rw [e]; exact rfl)
def tabM2 : Tab := oneTab 79 (opF badO) (oneTab 100 (cmF badC) tabM1)
theorem tabM2_ok : TabOK Try.prog tabM2 := oneTab_ok (opF_ok badO_at) (oneTab_ok (cmF_ok badC_at) tabM1_ok)
def chgC (L : List OpQ) (i : Nat) : CD := ⟨19, [(0, .lst opT L false), (1, .fn 42 [] []), (7, .int .i64 (L.length : Int)), (8, .int .i64 (i : Int))], [], [], 0⟩
def chgR (v : Int) : CD := ⟨19, [(4, .int .i64 v)], [], [], 0⟩
def chgE : CD := ⟨19, [], [], [], 0⟩
theorem chg_ix (L : List OpQ) (hw : opW L = true) : PureAt Try.prog 84 [.lst opT L false, .fn 42 [] []] (.int .i64 (ixI chgO L)) := by
 rw [opW_iff] at hw
 have hx := ix_in chgO L
 have hl := hw.1
 have hm := fst0_le chgO L
 have key : ∀ i, i < L.length → i ≤ fst0 chgO L → True := fun _ _ _ => trivial
 rcases hx with ⟨x1, x2, x3⟩ | ⟨x1, x2, x3⟩
 ·refine pure_of_loop tabM2_ok (fuel := 4) (d := 4) 2 (X := { i : Nat // i ≤ fst0 chgO L }) (fun x => chgC L x.1) (fun x => fst0 chgO L - x.1)
   (fun _ => .leaf (.exit 0) chgE) ⟨0, Nat.zero_le _⟩ [] rfl ?_ ?_
  ·rintro ⟨i, hi⟩
   dsimp only
   rcases Nat.lt_or_ge i L.length with hlt | hge
   case' inl =>
    obtain ⟨w0, w1, w2, ⟨w3a, w3b⟩⟩ : (((Sym.rowAt opT L (Int.toNat (i : Int))).2.1).size ≤ 1000000) ∧ (((Sym.rowAt opT L (Int.toNat (i : Int))).2.2.1).size ≤ 1000000) ∧ (((Sym.rowAt opT L (Int.toNat (i : Int))).2.2.2.1).size ≤ 1000000) ∧ (@LE.le Int _ 0 (Sym.rowAt opT L (Int.toNat (i : Int))).2.2.2.2.1 ∧ @LT.lt Int _ (Sym.rowAt opT L (Int.toNat (i : Int))).2.2.2.2.1 18446744073709551616) := by rw [show Int.toNat (i : Int) = i from Int.toNat_natCast i]; exact hw.2 i hlt
    have hp := fst0_not chgO L (i := i) (by omega)
    have hp : chgO (Sym.rowAt opT L (Int.toNat (i : Int))) = false := by rw [show Int.toNat (i : Int) = i from Int.toNat_natCast i]; exact hp
   case' inr =>
    have he : i = L.length := Nat.le_antisymm (Nat.le_trans hi hm) hge
    subst he
   all_goals
    repeat' ((conv => whnf); first | (with_reducible first | (refine W1.o ?_; constructor) | rfl | exact castL_self _ _) | ((with_reducible refine V.same_t ?_); exact rfl) | ((with_reducible refine andB_room ?_ ?_ ?_); (· kernel_rfl); (· (first | omega | (simp only [lens] <;> omega)))) | ((with_reducible refine W2.o ?_; constructor); · (first | with_reducible assumption | omega | (simp only [lens] <;> omega))) | ((with_reducible refine W3.o ?_; constructor); · (first | with_reducible assumption | omega | (simp only [lens] <;> omega))) | ((with_reducible refine W4.o ?_; constructor); · (first | (with_reducible first | assumption | exact decide_eq_true rfl | exact sEq_self _) | ((with_reducible refine eqOK_i ?_); kernel_rfl) | exact hp)) | ((with_reducible refine iteB_f ?_ ?_); · (first | (with_reducible first | assumption | exact decide_eq_true rfl | exact sEq_self _) | ((with_reducible refine eqOK_i ?_); kernel_rfl) | exact hp)) | (refine ⟨⟨i + 1, (by omega)⟩, ?_, rfl, ?_⟩) | (with_reducible refine CD.wk_au ?_) | (with_reducible refine W5.o ?_; constructor) | ((with_reducible refine W6.o ?_; constructor) <;> intro hB))
    all_goals ((conv => whnf); (try dsimp only); (try simp only [Nat.succ_eq_add_one, Nat.le_eq, castL_self]); (try omega))
    all_goals (try (first | omega | (simp only [lens] <;> omega)))
    all_goals first
     | exact rfl
     | omega
  ·repeat' ((conv => whnf); first | (with_reducible first | (refine W1.o ?_; constructor) | rfl | exact castL_self _ _) | ((with_reducible refine V.same_t ?_); exact rfl) | ((with_reducible refine andB_room ?_ ?_ ?_); (· kernel_rfl); (· (first | omega | (simp only [lens] <;> omega)))) | ((with_reducible refine W2.o ?_; constructor); · (first | with_reducible assumption | omega | (simp only [lens] <;> omega))) | ((with_reducible refine W3.o ?_; constructor); · (first | with_reducible assumption | omega | (simp only [lens] <;> omega))) | ((with_reducible refine W4.o ?_; constructor); · (first | (with_reducible first | assumption | exact decide_eq_true rfl | exact sEq_self _) | ((with_reducible refine eqOK_i ?_); kernel_rfl))) | ((with_reducible refine iteB_f ?_ ?_); · (first | (with_reducible first | assumption | exact decide_eq_true rfl | exact sEq_self _) | ((with_reducible refine eqOK_i ?_); kernel_rfl))) | (with_reducible refine CD.wk_au ?_) | (with_reducible refine W5.o ?_; constructor) | ((with_reducible refine W6.o ?_; constructor) <;> intro hB))
   all_goals ((conv => whnf); (try dsimp only); (try simp only [Nat.succ_eq_add_one, Nat.le_eq, castL_self]); (try omega))
   all_goals (try (first | omega | (simp only [lens] <;> omega)))
   all_goals first
    | exact rfl
    | (rw [x1]; done)
 ·refine pure_of_loop tabM2_ok (fuel := 4) (d := 4) 2 (X := { i : Nat // i ≤ fst0 chgO L }) (fun x => chgC L x.1) (fun x => fst0 chgO L - x.1)
   (fun _ => .leaf .ret (chgR (fst0 chgO L : Int))) ⟨0, Nat.zero_le _⟩ [] rfl ?_ ?_
  ·rintro ⟨i, hi⟩
   dsimp only
   have hlt : i < L.length := by omega
   obtain ⟨w0, w1, w2, ⟨w3a, w3b⟩⟩ : (((Sym.rowAt opT L (Int.toNat (i : Int))).2.1).size ≤ 1000000) ∧ (((Sym.rowAt opT L (Int.toNat (i : Int))).2.2.1).size ≤ 1000000) ∧ (((Sym.rowAt opT L (Int.toNat (i : Int))).2.2.2.1).size ≤ 1000000) ∧ (@LE.le Int _ 0 (Sym.rowAt opT L (Int.toNat (i : Int))).2.2.2.2.1 ∧ @LT.lt Int _ (Sym.rowAt opT L (Int.toNat (i : Int))).2.2.2.2.1 18446744073709551616) := by rw [show Int.toNat (i : Int) = i from Int.toNat_natCast i]; exact hw.2 i hlt
   rcases Nat.lt_or_ge i (fst0 chgO L) with hlf | hgf
   case' inl =>
    have hp := fst0_not chgO L hlf
    have hp : chgO (Sym.rowAt opT L (Int.toNat (i : Int))) = false := by rw [show Int.toNat (i : Int) = i from Int.toNat_natCast i]; exact hp
   case' inr =>
    have he : i = fst0 chgO L := Nat.le_antisymm hi hgf
    have hp := fst0_is chgO L (by omega)
    rw [← he] at hp
    have hp : chgO (Sym.rowAt opT L (Int.toNat (i : Int))) = true := by rw [show Int.toNat (i : Int) = i from Int.toNat_natCast i]; exact hp
   all_goals
    repeat' ((conv => whnf); first | (with_reducible first | (refine W1.o ?_; constructor) | rfl | exact castL_self _ _) | ((with_reducible refine V.same_t ?_); exact rfl) | ((with_reducible refine andB_room ?_ ?_ ?_); (· kernel_rfl); (· (first | omega | (simp only [lens] <;> omega)))) | ((with_reducible refine W2.o ?_; constructor); · (first | with_reducible assumption | omega | (simp only [lens] <;> omega))) | ((with_reducible refine W3.o ?_; constructor); · (first | with_reducible assumption | omega | (simp only [lens] <;> omega))) | ((with_reducible refine W4.o ?_; constructor); · (first | (with_reducible first | assumption | exact decide_eq_true rfl | exact sEq_self _) | ((with_reducible refine eqOK_i ?_); kernel_rfl) | exact hp)) | ((with_reducible refine iteB_f ?_ ?_); · (first | (with_reducible first | assumption | exact decide_eq_true rfl | exact sEq_self _) | ((with_reducible refine eqOK_i ?_); kernel_rfl) | exact hp)) | (refine ⟨⟨i + 1, hlf⟩, ?_, rfl, ?_⟩) | (with_reducible refine CD.wk_au ?_) | (with_reducible refine W5.o ?_; constructor) | ((with_reducible refine W6.o ?_; constructor) <;> intro hB))
    all_goals ((conv => whnf); (try dsimp only); (try simp only [Nat.succ_eq_add_one, Nat.le_eq, castL_self]); (try omega))
    all_goals (try (first | omega | (simp only [lens] <;> omega)))
    all_goals first
     | exact rfl
     | omega
     | exact congrArg (Nat.cast : Nat → Int) he
  ·repeat' ((conv => whnf); first | (with_reducible first | (refine W1.o ?_; constructor) | rfl | exact castL_self _ _) | ((with_reducible refine V.same_t ?_); exact rfl) | ((with_reducible refine andB_room ?_ ?_ ?_); (· kernel_rfl); (· (first | omega | (simp only [lens] <;> omega)))) | ((with_reducible refine W2.o ?_; constructor); · (first | with_reducible assumption | omega | (simp only [lens] <;> omega))) | ((with_reducible refine W3.o ?_; constructor); · (first | with_reducible assumption | omega | (simp only [lens] <;> omega))) | ((with_reducible refine W4.o ?_; constructor); · (first | (with_reducible first | assumption | exact decide_eq_true rfl | exact sEq_self _) | ((with_reducible refine eqOK_i ?_); kernel_rfl))) | ((with_reducible refine iteB_f ?_ ?_); · (first | (with_reducible first | assumption | exact decide_eq_true rfl | exact sEq_self _) | ((with_reducible refine eqOK_i ?_); kernel_rfl))) | (with_reducible refine CD.wk_au ?_) | (with_reducible refine W5.o ?_; constructor) | ((with_reducible refine W6.o ?_; constructor) <;> intro hB))
   all_goals ((conv => whnf); (try dsimp only); (try simp only [Nat.succ_eq_add_one, Nat.le_eq, castL_self]); (try omega))
   all_goals (try (first | omega | (simp only [lens] <;> omega)))
   all_goals first
    | exact rfl
    | (rw [x1]; done)
    | exact x1.symm
def bdoC (L : List OpQ) (i : Nat) : CD := ⟨19, [(0, .lst opT L false), (1, .fn 79 [] []), (7, .int .i64 (L.length : Int)), (8, .int .i64 (i : Int))], [], [], 0⟩
def bdoR (v : Int) : CD := ⟨19, [(4, .int .i64 v)], [], [], 0⟩
def bdoE : CD := ⟨19, [], [], [], 0⟩
theorem bdo_ix (L : List OpQ) (hw : opW L = true) : PureAt Try.prog 84 [.lst opT L false, .fn 79 [] []] (.int .i64 (ixI badO L)) := by
 rw [opW_iff] at hw
 have hx := ix_in badO L
 have hl := hw.1
 have hm := fst0_le badO L
 have key : ∀ i, i < L.length → i ≤ fst0 badO L → True := fun _ _ _ => trivial
 rcases hx with ⟨x1, x2, x3⟩ | ⟨x1, x2, x3⟩
 ·refine pure_of_loop tabM2_ok (fuel := 4) (d := 4) 2 (X := { i : Nat // i ≤ fst0 badO L }) (fun x => bdoC L x.1) (fun x => fst0 badO L - x.1)
   (fun _ => .leaf (.exit 0) bdoE) ⟨0, Nat.zero_le _⟩ [] rfl ?_ ?_
  ·rintro ⟨i, hi⟩
   dsimp only
   rcases Nat.lt_or_ge i L.length with hlt | hge
   case' inl =>
    obtain ⟨w0, w1, w2, ⟨w3a, w3b⟩⟩ : (((Sym.rowAt opT L (Int.toNat (i : Int))).2.1).size ≤ 1000000) ∧ (((Sym.rowAt opT L (Int.toNat (i : Int))).2.2.1).size ≤ 1000000) ∧ (((Sym.rowAt opT L (Int.toNat (i : Int))).2.2.2.1).size ≤ 1000000) ∧ (@LE.le Int _ 0 (Sym.rowAt opT L (Int.toNat (i : Int))).2.2.2.2.1 ∧ @LT.lt Int _ (Sym.rowAt opT L (Int.toNat (i : Int))).2.2.2.2.1 18446744073709551616) := by rw [show Int.toNat (i : Int) = i from Int.toNat_natCast i]; exact hw.2 i hlt
    have hp := fst0_not badO L (i := i) (by omega)
    have hp : badO (Sym.rowAt opT L (Int.toNat (i : Int))) = false := by rw [show Int.toNat (i : Int) = i from Int.toNat_natCast i]; exact hp
   case' inr =>
    have he : i = L.length := Nat.le_antisymm (Nat.le_trans hi hm) hge
    subst he
   all_goals
    repeat' ((conv => whnf); first | (with_reducible first | (refine W1.o ?_; constructor) | rfl | exact castL_self _ _) | ((with_reducible refine V.same_t ?_); exact rfl) | ((with_reducible refine andB_room ?_ ?_ ?_); (· kernel_rfl); (· (first | omega | (simp only [lens] <;> omega)))) | ((with_reducible refine W2.o ?_; constructor); · (first | with_reducible assumption | omega | (simp only [lens] <;> omega))) | ((with_reducible refine W3.o ?_; constructor); · (first | with_reducible assumption | omega | (simp only [lens] <;> omega))) | ((with_reducible refine W4.o ?_; constructor); · (first | (with_reducible first | assumption | exact decide_eq_true rfl | exact sEq_self _) | ((with_reducible refine eqOK_i ?_); kernel_rfl) | exact hp)) | ((with_reducible refine iteB_f ?_ ?_); · (first | (with_reducible first | assumption | exact decide_eq_true rfl | exact sEq_self _) | ((with_reducible refine eqOK_i ?_); kernel_rfl) | exact hp)) | (refine ⟨⟨i + 1, (by omega)⟩, ?_, rfl, ?_⟩) | (with_reducible refine CD.wk_au ?_) | (with_reducible refine W5.o ?_; constructor) | ((with_reducible refine W6.o ?_; constructor) <;> intro hB))
    all_goals ((conv => whnf); (try dsimp only); (try simp only [Nat.succ_eq_add_one, Nat.le_eq, castL_self]); (try omega))
    all_goals (try (first | omega | (simp only [lens] <;> omega)))
    all_goals first
     | exact rfl
     | omega
  ·repeat' ((conv => whnf); first | (with_reducible first | (refine W1.o ?_; constructor) | rfl | exact castL_self _ _) | ((with_reducible refine V.same_t ?_); exact rfl) | ((with_reducible refine andB_room ?_ ?_ ?_); (· kernel_rfl); (· (first | omega | (simp only [lens] <;> omega)))) | ((with_reducible refine W2.o ?_; constructor); · (first | with_reducible assumption | omega | (simp only [lens] <;> omega))) | ((with_reducible refine W3.o ?_; constructor); · (first | with_reducible assumption | omega | (simp only [lens] <;> omega))) | ((with_reducible refine W4.o ?_; constructor); · (first | (with_reducible first | assumption | exact decide_eq_true rfl | exact sEq_self _) | ((with_reducible refine eqOK_i ?_); kernel_rfl))) | ((with_reducible refine iteB_f ?_ ?_); · (first | (with_reducible first | assumption | exact decide_eq_true rfl | exact sEq_self _) | ((with_reducible refine eqOK_i ?_); kernel_rfl))) | (with_reducible refine CD.wk_au ?_) | (with_reducible refine W5.o ?_; constructor) | ((with_reducible refine W6.o ?_; constructor) <;> intro hB))
   all_goals ((conv => whnf); (try dsimp only); (try simp only [Nat.succ_eq_add_one, Nat.le_eq, castL_self]); (try omega))
   all_goals (try (first | omega | (simp only [lens] <;> omega)))
   all_goals first
    | exact rfl
    | (rw [x1]; done)
 ·refine pure_of_loop tabM2_ok (fuel := 4) (d := 4) 2 (X := { i : Nat // i ≤ fst0 badO L }) (fun x => bdoC L x.1) (fun x => fst0 badO L - x.1)
   (fun _ => .leaf .ret (bdoR (fst0 badO L : Int))) ⟨0, Nat.zero_le _⟩ [] rfl ?_ ?_
  ·rintro ⟨i, hi⟩
   dsimp only
   have hlt : i < L.length := by omega
   obtain ⟨w0, w1, w2, ⟨w3a, w3b⟩⟩ : (((Sym.rowAt opT L (Int.toNat (i : Int))).2.1).size ≤ 1000000) ∧ (((Sym.rowAt opT L (Int.toNat (i : Int))).2.2.1).size ≤ 1000000) ∧ (((Sym.rowAt opT L (Int.toNat (i : Int))).2.2.2.1).size ≤ 1000000) ∧ (@LE.le Int _ 0 (Sym.rowAt opT L (Int.toNat (i : Int))).2.2.2.2.1 ∧ @LT.lt Int _ (Sym.rowAt opT L (Int.toNat (i : Int))).2.2.2.2.1 18446744073709551616) := by rw [show Int.toNat (i : Int) = i from Int.toNat_natCast i]; exact hw.2 i hlt
   rcases Nat.lt_or_ge i (fst0 badO L) with hlf | hgf
   case' inl =>
    have hp := fst0_not badO L hlf
    have hp : badO (Sym.rowAt opT L (Int.toNat (i : Int))) = false := by rw [show Int.toNat (i : Int) = i from Int.toNat_natCast i]; exact hp
   case' inr =>
    have he : i = fst0 badO L := Nat.le_antisymm hi hgf
    have hp := fst0_is badO L (by omega)
    rw [← he] at hp
    have hp : badO (Sym.rowAt opT L (Int.toNat (i : Int))) = true := by rw [show Int.toNat (i : Int) = i from Int.toNat_natCast i]; exact hp
   all_goals
    repeat' ((conv => whnf); first | (with_reducible first | (refine W1.o ?_; constructor) | rfl | exact castL_self _ _) | ((with_reducible refine V.same_t ?_); exact rfl) | ((with_reducible refine andB_room ?_ ?_ ?_); (· kernel_rfl); (· (first | omega | (simp only [lens] <;> omega)))) | ((with_reducible refine W2.o ?_; constructor); · (first | with_reducible assumption | omega | (simp only [lens] <;> omega))) | ((with_reducible refine W3.o ?_; constructor); · (first | with_reducible assumption | omega | (simp only [lens] <;> omega))) | ((with_reducible refine W4.o ?_; constructor); · (first | (with_reducible first | assumption | exact decide_eq_true rfl | exact sEq_self _) | ((with_reducible refine eqOK_i ?_); kernel_rfl) | exact hp)) | ((with_reducible refine iteB_f ?_ ?_); · (first | (with_reducible first | assumption | exact decide_eq_true rfl | exact sEq_self _) | ((with_reducible refine eqOK_i ?_); kernel_rfl) | exact hp)) | (refine ⟨⟨i + 1, hlf⟩, ?_, rfl, ?_⟩) | (with_reducible refine CD.wk_au ?_) | (with_reducible refine W5.o ?_; constructor) | ((with_reducible refine W6.o ?_; constructor) <;> intro hB))
    all_goals ((conv => whnf); (try dsimp only); (try simp only [Nat.succ_eq_add_one, Nat.le_eq, castL_self]); (try omega))
    all_goals (try (first | omega | (simp only [lens] <;> omega)))
    all_goals first
     | exact rfl
     | omega
     | exact congrArg (Nat.cast : Nat → Int) he
  ·repeat' ((conv => whnf); first | (with_reducible first | (refine W1.o ?_; constructor) | rfl | exact castL_self _ _) | ((with_reducible refine V.same_t ?_); exact rfl) | ((with_reducible refine andB_room ?_ ?_ ?_); (· kernel_rfl); (· (first | omega | (simp only [lens] <;> omega)))) | ((with_reducible refine W2.o ?_; constructor); · (first | with_reducible assumption | omega | (simp only [lens] <;> omega))) | ((with_reducible refine W3.o ?_; constructor); · (first | with_reducible assumption | omega | (simp only [lens] <;> omega))) | ((with_reducible refine W4.o ?_; constructor); · (first | (with_reducible first | assumption | exact decide_eq_true rfl | exact sEq_self _) | ((with_reducible refine eqOK_i ?_); kernel_rfl))) | ((with_reducible refine iteB_f ?_ ?_); · (first | (with_reducible first | assumption | exact decide_eq_true rfl | exact sEq_self _) | ((with_reducible refine eqOK_i ?_); kernel_rfl))) | (with_reducible refine CD.wk_au ?_) | (with_reducible refine W5.o ?_; constructor) | ((with_reducible refine W6.o ?_; constructor) <;> intro hB))
   all_goals ((conv => whnf); (try dsimp only); (try simp only [Nat.succ_eq_add_one, Nat.le_eq, castL_self]); (try omega))
   all_goals (try (first | omega | (simp only [lens] <;> omega)))
   all_goals first
    | exact rfl
    | (rw [x1]; done)
    | exact x1.symm
def bdcC (L : List CmQ) (i : Nat) : CD := ⟨19, [(0, .lst cmT L false), (1, .fn 100 [] []), (7, .int .i64 (L.length : Int)), (8, .int .i64 (i : Int))], [], [], 0⟩
def bdcR (v : Int) : CD := ⟨19, [(4, .int .i64 v)], [], [], 0⟩
def bdcE : CD := ⟨19, [], [], [], 0⟩
theorem bdc_ix (L : List CmQ) (hw : cmW L = true) : PureAt Try.prog 103 [.lst cmT L false, .fn 100 [] []] (.int .i64 (ixI badC L)) := by
 rw [cmW_iff] at hw
 have hx := ix_in badC L
 have hl := hw.1
 have hm := fst0_le badC L
 have key : ∀ i, i < L.length → i ≤ fst0 badC L → True := fun _ _ _ => trivial
 rcases hx with ⟨x1, x2, x3⟩ | ⟨x1, x2, x3⟩
 ·refine pure_of_loop tabM2_ok (fuel := 4) (d := 4) 2 (X := { i : Nat // i ≤ fst0 badC L }) (fun x => bdcC L x.1) (fun x => fst0 badC L - x.1)
   (fun _ => .leaf (.exit 0) bdcE) ⟨0, Nat.zero_le _⟩ [] rfl ?_ ?_
  ·rintro ⟨i, hi⟩
   dsimp only
   rcases Nat.lt_or_ge i L.length with hlt | hge
   case' inl =>
    obtain ⟨w0, ⟨w1a, w1b⟩, w2⟩ : (((Sym.rowAt cmT L (Int.toNat (i : Int))).1).size ≤ 1000000) ∧ (@LE.le Int _ 0 (Sym.rowAt cmT L (Int.toNat (i : Int))).2.2.2.1 ∧ @LT.lt Int _ (Sym.rowAt cmT L (Int.toNat (i : Int))).2.2.2.1 18446744073709551616) ∧ (((Sym.rowAt cmT L (Int.toNat (i : Int))).2.2.2.2).size ≤ 1000000) := by rw [show Int.toNat (i : Int) = i from Int.toNat_natCast i]; exact hw.2 i hlt
    have hp := fst0_not badC L (i := i) (by omega)
    have hp : badC (Sym.rowAt cmT L (Int.toNat (i : Int))) = false := by rw [show Int.toNat (i : Int) = i from Int.toNat_natCast i]; exact hp
   case' inr =>
    have he : i = L.length := Nat.le_antisymm (Nat.le_trans hi hm) hge
    subst he
   all_goals
    repeat' ((conv => whnf); first | (with_reducible first | (refine W1.o ?_; constructor) | rfl | exact castL_self _ _) | ((with_reducible refine V.same_t ?_); exact rfl) | ((with_reducible refine andB_room ?_ ?_ ?_); (· kernel_rfl); (· (first | omega | (simp only [lens] <;> omega)))) | ((with_reducible refine W2.o ?_; constructor); · (first | with_reducible assumption | omega | (simp only [lens] <;> omega))) | ((with_reducible refine W3.o ?_; constructor); · (first | with_reducible assumption | omega | (simp only [lens] <;> omega))) | ((with_reducible refine W4.o ?_; constructor); · (first | (with_reducible first | assumption | exact decide_eq_true rfl | exact sEq_self _) | ((with_reducible refine eqOK_i ?_); kernel_rfl) | exact hp)) | ((with_reducible refine iteB_f ?_ ?_); · (first | (with_reducible first | assumption | exact decide_eq_true rfl | exact sEq_self _) | ((with_reducible refine eqOK_i ?_); kernel_rfl) | exact hp)) | (refine ⟨⟨i + 1, (by omega)⟩, ?_, rfl, ?_⟩) | (with_reducible refine CD.wk_au ?_) | (with_reducible refine W5.o ?_; constructor) | ((with_reducible refine W6.o ?_; constructor) <;> intro hB))
    all_goals ((conv => whnf); (try dsimp only); (try simp only [Nat.succ_eq_add_one, Nat.le_eq, castL_self]); (try omega))
    all_goals (try (first | omega | (simp only [lens] <;> omega)))
    all_goals first
     | exact rfl
     | omega
  ·repeat' ((conv => whnf); first | (with_reducible first | (refine W1.o ?_; constructor) | rfl | exact castL_self _ _) | ((with_reducible refine V.same_t ?_); exact rfl) | ((with_reducible refine andB_room ?_ ?_ ?_); (· kernel_rfl); (· (first | omega | (simp only [lens] <;> omega)))) | ((with_reducible refine W2.o ?_; constructor); · (first | with_reducible assumption | omega | (simp only [lens] <;> omega))) | ((with_reducible refine W3.o ?_; constructor); · (first | with_reducible assumption | omega | (simp only [lens] <;> omega))) | ((with_reducible refine W4.o ?_; constructor); · (first | (with_reducible first | assumption | exact decide_eq_true rfl | exact sEq_self _) | ((with_reducible refine eqOK_i ?_); kernel_rfl))) | ((with_reducible refine iteB_f ?_ ?_); · (first | (with_reducible first | assumption | exact decide_eq_true rfl | exact sEq_self _) | ((with_reducible refine eqOK_i ?_); kernel_rfl))) | (with_reducible refine CD.wk_au ?_) | (with_reducible refine W5.o ?_; constructor) | ((with_reducible refine W6.o ?_; constructor) <;> intro hB))
   all_goals ((conv => whnf); (try dsimp only); (try simp only [Nat.succ_eq_add_one, Nat.le_eq, castL_self]); (try omega))
   all_goals (try (first | omega | (simp only [lens] <;> omega)))
   all_goals first
    | exact rfl
    | (rw [x1]; done)
 ·refine pure_of_loop tabM2_ok (fuel := 4) (d := 4) 2 (X := { i : Nat // i ≤ fst0 badC L }) (fun x => bdcC L x.1) (fun x => fst0 badC L - x.1)
   (fun _ => .leaf .ret (bdcR (fst0 badC L : Int))) ⟨0, Nat.zero_le _⟩ [] rfl ?_ ?_
  ·rintro ⟨i, hi⟩
   dsimp only
   have hlt : i < L.length := by omega
   obtain ⟨w0, ⟨w1a, w1b⟩, w2⟩ : (((Sym.rowAt cmT L (Int.toNat (i : Int))).1).size ≤ 1000000) ∧ (@LE.le Int _ 0 (Sym.rowAt cmT L (Int.toNat (i : Int))).2.2.2.1 ∧ @LT.lt Int _ (Sym.rowAt cmT L (Int.toNat (i : Int))).2.2.2.1 18446744073709551616) ∧ (((Sym.rowAt cmT L (Int.toNat (i : Int))).2.2.2.2).size ≤ 1000000) := by rw [show Int.toNat (i : Int) = i from Int.toNat_natCast i]; exact hw.2 i hlt
   rcases Nat.lt_or_ge i (fst0 badC L) with hlf | hgf
   case' inl =>
    have hp := fst0_not badC L hlf
    have hp : badC (Sym.rowAt cmT L (Int.toNat (i : Int))) = false := by rw [show Int.toNat (i : Int) = i from Int.toNat_natCast i]; exact hp
   case' inr =>
    have he : i = fst0 badC L := Nat.le_antisymm hi hgf
    have hp := fst0_is badC L (by omega)
    rw [← he] at hp
    have hp : badC (Sym.rowAt cmT L (Int.toNat (i : Int))) = true := by rw [show Int.toNat (i : Int) = i from Int.toNat_natCast i]; exact hp
   all_goals
    repeat' ((conv => whnf); first | (with_reducible first | (refine W1.o ?_; constructor) | rfl | exact castL_self _ _) | ((with_reducible refine V.same_t ?_); exact rfl) | ((with_reducible refine andB_room ?_ ?_ ?_); (· kernel_rfl); (· (first | omega | (simp only [lens] <;> omega)))) | ((with_reducible refine W2.o ?_; constructor); · (first | with_reducible assumption | omega | (simp only [lens] <;> omega))) | ((with_reducible refine W3.o ?_; constructor); · (first | with_reducible assumption | omega | (simp only [lens] <;> omega))) | ((with_reducible refine W4.o ?_; constructor); · (first | (with_reducible first | assumption | exact decide_eq_true rfl | exact sEq_self _) | ((with_reducible refine eqOK_i ?_); kernel_rfl) | exact hp)) | ((with_reducible refine iteB_f ?_ ?_); · (first | (with_reducible first | assumption | exact decide_eq_true rfl | exact sEq_self _) | ((with_reducible refine eqOK_i ?_); kernel_rfl) | exact hp)) | (refine ⟨⟨i + 1, hlf⟩, ?_, rfl, ?_⟩) | (with_reducible refine CD.wk_au ?_) | (with_reducible refine W5.o ?_; constructor) | ((with_reducible refine W6.o ?_; constructor) <;> intro hB))
    all_goals ((conv => whnf); (try dsimp only); (try simp only [Nat.succ_eq_add_one, Nat.le_eq, castL_self]); (try omega))
    all_goals (try (first | omega | (simp only [lens] <;> omega)))
    all_goals first
     | exact rfl
     | omega
     | exact congrArg (Nat.cast : Nat → Int) he
  ·repeat' ((conv => whnf); first | (with_reducible first | (refine W1.o ?_; constructor) | rfl | exact castL_self _ _) | ((with_reducible refine V.same_t ?_); exact rfl) | ((with_reducible refine andB_room ?_ ?_ ?_); (· kernel_rfl); (· (first | omega | (simp only [lens] <;> omega)))) | ((with_reducible refine W2.o ?_; constructor); · (first | with_reducible assumption | omega | (simp only [lens] <;> omega))) | ((with_reducible refine W3.o ?_; constructor); · (first | with_reducible assumption | omega | (simp only [lens] <;> omega))) | ((with_reducible refine W4.o ?_; constructor); · (first | (with_reducible first | assumption | exact decide_eq_true rfl | exact sEq_self _) | ((with_reducible refine eqOK_i ?_); kernel_rfl))) | ((with_reducible refine iteB_f ?_ ?_); · (first | (with_reducible first | assumption | exact decide_eq_true rfl | exact sEq_self _) | ((with_reducible refine eqOK_i ?_); kernel_rfl))) | (with_reducible refine CD.wk_au ?_) | (with_reducible refine W5.o ?_; constructor) | ((with_reducible refine W6.o ?_; constructor) <;> intro hB))
   all_goals ((conv => whnf); (try dsimp only); (try simp only [Nat.succ_eq_add_one, Nat.le_eq, castL_self]); (try omega))
   all_goals (try (first | omega | (simp only [lens] <;> omega)))
   all_goals first
    | exact rfl
    | (rw [x1]; done)
    | exact x1.symm
end Go.Proofs.Ytaloolcabmfjbaa
end

noncomputable section
namespace Go.Proofs.Ytaloolcabmfjbaa
open Go.Sym
set_option maxRecDepth 100000
set_option maxHeartbeats 4000000
def opIF (args : List V) : Option (List Bool × V) := match args with
 | [l, .fn g [] []] => (match ofLst opT l with
   | some L => bif Nat.beq g 42 then some ([opW L], .int .i64 (ixI chgO L)) else some ([Nat.beq g 79, opW L], .int .i64 (ixI badO L))
   | none => none)
 | _ => none
theorem opIF_ok (args : List V) (c : List Bool) (v : V) (h : opIF args = some (c, v)) (hc : allB c) : PureAt Try.prog 84 args v := by
 unfold opIF at h
 split at h
 ·split at h
  ·rename_i l g q L hl
   cases hg : Nat.beq g 42 with
   | true =>
    rw [hg] at h
    cases h
    rw [Nat.eq_of_beq_eq_true hg]
    exact PureAt.lst0 (chg_ix L hc.1) hl
   | false =>
    rw [hg] at h
    cases h
    rw [Nat.eq_of_beq_eq_true hc.1]
    exact PureAt.lst0 (bdo_ix L hc.2.1) hl
  ·cases h
 ·cases h
def cmIF (args : List V) : Option (List Bool × V) := match args with
 | [l, .fn g [] []] => (match ofLst cmT l with
   | some L => some ([Nat.beq g 100, cmW L], .int .i64 (ixI badC L))
   | none => none)
 | _ => none
theorem cmIF_ok (args : List V) (c : List Bool) (v : V) (h : cmIF args = some (c, v)) (hc : allB c) : PureAt Try.prog 103 args v := by
 unfold cmIF at h
 split at h
 ·split at h
  ·rename_i l g q L hl
   cases h
   rw [Nat.eq_of_beq_eq_true hc.1]
   exact PureAt.lst0 (bdc_ix L hc.2.1) hl
  ·cases h
 ·cases h
def tabX : Tab := oneTab 84 opIF (oneTab 103 cmIF tabM2)
theorem tabX_ok : TabOK Try.prog tabX := oneTab_ok opIF_ok (oneTab_ok cmIF_ok tabM2_ok)
theorem le_ix {e : List Ty} (p : rowDen e → Bool) (L : List (rowDen e)) : leI 0 (ixI p L) = anyB p L := by
 rw [leI_eq]
 rcases ix_in p L with ⟨a, b, c⟩ | ⟨a, b, c⟩
 ·rw [a, b]; rfl
 ·rw [a, b]; exact decide_eq_true (by omega)
abbrev RqT : Type := Int × Int × Int × Bool × List CmQ × List OpQ × List OpQ × Int
abbrev rqG (q : RqT) : V := .agg [.int .i64 q.1, .int .u64 q.2.1, .int .u64 q.2.2.1, .bool q.2.2.2.1, .lst cmT q.2.2.2.2.1 false, .lst opT q.2.2.2.2.2.1 false, .lst opT q.2.2.2.2.2.2.1 false, .int .u64 q.2.2.2.2.2.2.2]
def wrB : Int → List OpQ → List OpQ → Bool := hide fun k A B => decide (k = 1) || (decide (k = 0) && (anyB chgO A || anyB chgO B))
theorem wrB_eq (k : Int) (A B : List OpQ) : wrB k A B = (decide (k = 1) || (decide (k = 0) && (anyB chgO A || anyB chgO B))) := by unfold wrB; rw [hide_eq]
section
variable (k cl nm rv : Int) (sr : Bool) (C : List CmQ) (A B : List OpQ)
theorem writes_at (wA : opW A = true) (wB : opW B = true) : PureAt Try.prog 13 [(.agg [.int .i64 k, .int .u64 cl, .int .u64 nm, .bool sr, .lst cmT C false, .lst opT A false, .lst opT B false, .int .u64 rv])] (.bool (wrB k A B)) := by
 have ia := ix_in chgO A
 have ib := ix_in chgO B
 have e := wrB_eq k A B
 refine pure_of_W0 (tab := tabX) (fuel := 4) (d := 6) tabX_ok ?_
 rcases ia with ⟨a1, a2, a3⟩ | ⟨a1, a2, a3⟩ <;> rcases ib with ⟨b1, b2, b3⟩ | ⟨b1, b2, b3⟩
 all_goals
  repeat' ((conv => whnf); first | (with_reducible first | (refine W1.o ?_; constructor) | rfl | exact castL_self _ _) | ((with_reducible refine V.same_t ?_); exact rfl) | ((with_reducible refine andB_room ?_ ?_ ?_); (· kernel_rfl); (· (first | omega | (simp only [lens] <;> omega)))) | ((with_reducible refine W2.o ?_; constructor); · (first | with_reducible assumption | omega | (simp only [lens] <;> omega))) | ((with_reducible refine W3.o ?_; constructor); · (first | with_reducible assumption | omega | (simp only [lens] <;> omega))) | ((with_reducible refine W4.o ?_; constructor); · (first | (with_reducible first | assumption | exact decide_eq_true rfl | exact sEq_self _) | ((with_reducible refine eqOK_i ?_); kernel_rfl) | exact wA | exact wB)) | ((with_reducible refine iteB_f ?_ ?_); · (first | (with_reducible first | assumption | exact decide_eq_true rfl | exact sEq_self _) | ((with_reducible refine eqOK_i ?_); kernel_rfl) | exact wA | exact wB)) | (with_reducible refine W5.o ?_; constructor) | ((with_reducible refine W6.o ?_; constructor) <;> intro hB))
  all_goals ((conv => whnf); (try dsimp only); (try simp only [Nat.succ_eq_add_one, Nat.le_eq, castL_self]); (try omega))
  all_goals (try (first | omega | (simp only [lens] <;> omega)))
  all_goals (rw [e, a2, b2]; refine congrArg V.bool ?_; clear e wA wB a1 a3 b1 b3)
  all_goals first
   | (simp [le_ix, *]; done)
end
def hcE : List CmQ → Int := hide fun C => if 4 < C.length then 3 else if anyB badC C = true then 11 else 0
theorem hcE_eq (C : List CmQ) : hcE C = if 4 < C.length then 3 else if anyB badC C = true then 11 else 0 := by unfold hcE; rw [hide_eq]
theorem hcheck_at (C : List CmQ) (wC : cmW C = true) : PureAt Try.prog 81 [.lst cmT C false] (.int .i64 (hcE C)) := by
 have ic := ix_in badC C
 have e := hcE_eq C
 have wl := ((cmW_iff C).1 wC).1
 refine pure_of_W0 (tab := tabX) (fuel := 4) (d := 6) tabX_ok ?_
 rcases ic with ⟨c1, c2, c3⟩ | ⟨c1, c2, c3⟩ <;> by_cases hl : 4 < C.length
 all_goals
  repeat' ((conv => whnf); first | (with_reducible first | (refine W1.o ?_; constructor) | rfl | exact castL_self _ _) | ((with_reducible refine V.same_t ?_); exact rfl) | ((with_reducible refine andB_room ?_ ?_ ?_); (· kernel_rfl); (· (first | omega | (simp only [lens] <;> omega)))) | ((with_reducible refine W2.o ?_; constructor); · (first | with_reducible assumption | omega | (simp only [lens] <;> omega))) | ((with_reducible refine W3.o ?_; constructor); · (first | with_reducible assumption | omega | (simp only [lens] <;> omega))) | ((with_reducible refine W4.o ?_; constructor); · (first | (with_reducible first | assumption | exact decide_eq_true rfl | exact sEq_self _) | ((with_reducible refine eqOK_i ?_); kernel_rfl) | (first | (exact wC)))) | ((with_reducible refine iteB_f ?_ ?_); · (first | (with_reducible first | assumption | exact decide_eq_true rfl | exact sEq_self _) | ((with_reducible refine eqOK_i ?_); kernel_rfl) | (first | (exact wC)))) | (with_reducible refine W5.o ?_; constructor) | ((with_reducible refine W6.o ?_; constructor) <;> intro hB))
  all_goals ((conv => whnf); (try dsimp only); (try simp only [Nat.succ_eq_add_one, Nat.le_eq, castL_self]); (try omega))
  all_goals (try (first | omega | (simp only [lens] <;> omega)))
  all_goals first
   | (rw [e]; simp [hl, c2]; done)
def hcF (args : List V) : Option (List Bool × V) := match args with
 | [l] => (match ofLst cmT l with
   | some C => some ([cmW C], .int .i64 (hcE C))
   | none => none)
 | _ => none
theorem hcF_is {g : FuncId} (hg : ∀ C, cmW C = true → PureAt Try.prog g [.lst cmT C false] (.int .i64 (hcE C))) (args : List V) (c : List Bool) (v : V) (h : hcF args = some (c, v)) (hc : allB c) : PureAt Try.prog g args v := by
 unfold hcF at h
 split at h
 ·split at h
  ·rename_i l q C hl
   cases h
   exact PureAt.lst0 (hg C hc.1) hl
  ·cases h
 ·cases h
def tabY : Tab := oneTab 81 hcF tabX
theorem tabY_ok : TabOK Try.prog tabY := oneTab_ok (hcF_is hcheck_at) tabX_ok
theorem dec0 {p : Prop} [Decidable p] (h : p) : V.int .i64 0 = V.int .i64 (bif decide p then 0 else 11) := by rw [decide_eq_true h]; rfl
theorem dec11 {p : Prop} [Decidable p] (h : ¬ p) : V.int .i64 11 = V.int .i64 (bif decide p then 0 else 11) := by rw [decide_eq_false h]; rfl
def stB : Int → List CmQ → List OpQ → List OpQ → Bool := hide fun k C A B => decide (k = 0 ∧ hcE C = 0 ∧ A.length ≤ 6 ∧ B.length ≤ 6 ∧ anyB badO A = false ∧ anyB badO B = false)
theorem stB_eq (k : Int) (C : List CmQ) (A B : List OpQ) : stB k C A B = decide (k = 0 ∧ hcE C = 0 ∧ A.length ≤ 6 ∧ B.length ≤ 6 ∧ anyB badO A = false ∧ anyB badO B = false) := by unfold stB; rw [hide_eq]
def stE : Int → List CmQ → List OpQ → List OpQ → Int := hide fun k C A B => bif stB k C A B then 0 else 11
theorem stE_eq (k : Int) (C : List CmQ) (A B : List OpQ) : stE k C A B = bif stB k C A B then 0 else 11 := by unfold stE; rw [hide_eq]
section
variable (k cl nm rv : Int) (sr : Bool) (C : List CmQ) (A B : List OpQ)
theorem stcheck_at (wC : cmW C = true) (wA : opW A = true) (wB : opW B = true) : PureAt Try.prog 37 [(.agg [.int .i64 k, .int .u64 cl, .int .u64 nm, .bool sr, .lst cmT C false, .lst opT A false, .lst opT B false, .int .u64 rv])] (.int .i64 (stE k C A B)) := by
 have ia := ix_in badO A
 have ib := ix_in badO B
 have e : stE k C A B = bif decide (k = 0 ∧ hcE C = 0 ∧ A.length ≤ 6 ∧ B.length ≤ 6 ∧ anyB badO A = false ∧ anyB badO B = false) then 0 else 11 := by rw [stE_eq, stB_eq]
 refine pure_of_W0 (tab := tabY) (fuel := 4) (d := 6) tabY_ok ?_
 rcases ia with ⟨a1, a2, a3⟩ | ⟨a1, a2, a3⟩ <;> rcases ib with ⟨b1, b2, b3⟩ | ⟨b1, b2, b3⟩
 all_goals
  repeat' ((conv => whnf); first | (with_reducible first | (refine W1.o ?_; constructor) | rfl | exact castL_self _ _) | ((with_reducible refine V.same_t ?_); exact rfl) | ((with_reducible refine andB_room ?_ ?_ ?_); (· kernel_rfl); (· (first | omega | (simp only [lens] <;> omega)))) | ((with_reducible refine W2.o ?_; constructor); · (first | with_reducible assumption | omega | (simp only [lens] <;> omega))) | ((with_reducible refine W3.o ?_; constructor); · (first | with_reducible assumption | omega | (simp only [lens] <;> omega))) | ((with_reducible refine W4.o ?_; constructor); · (first | (with_reducible first | assumption | exact decide_eq_true rfl | exact sEq_self _) | ((with_reducible refine eqOK_i ?_); kernel_rfl) | exact wC | exact wA | exact wB)) | ((with_reducible refine iteB_f ?_ ?_); · (first | (with_reducible first | assumption | exact decide_eq_true rfl | exact sEq_self _) | ((with_reducible refine eqOK_i ?_); kernel_rfl) | exact wC | exact wA | exact wB)) | (with_reducible refine W5.o ?_; constructor) | ((with_reducible refine W6.o ?_; constructor) <;> intro hB))
  all_goals ((conv => whnf); (try dsimp only); (try simp only [Nat.succ_eq_add_one, Nat.le_eq, castL_self]); (try omega))
  all_goals (try (first | omega | (simp only [lens] <;> omega)))
  all_goals (rw [e, a2, b2]; clear e wA wB wC a1 a3 b1 b3)
  all_goals first
   | (simp [*]; done)
   | (refine dec11 ?_; (try simp only [castL_self, eq_self, reduceCtorEq, and_true, and_false, true_and, false_and, not_false_eq_true, not_true_eq_false] at *) <;> omega)
   | (refine dec0 ?_; (try simp only [castL_self, eq_self, reduceCtorEq, and_true, and_false, true_and, false_and, not_false_eq_true, not_true_eq_false] at *) <;> omega)
end
end Go.Proofs.Ytaloolcabmfjbaa
end
