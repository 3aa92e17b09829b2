/-
  Texts of this claim, one behind the other: CdAny. Each says its own conditions.
-/
import Derived.Test.YtaloolcabmfjbaaCdoM8
import Derived.Test.YtaloolcabmfjbaaCdoM10

set_option linter.unusedVariables false
set_option linter.unusedSimpArgs false
set_option linter.unusedSectionVars false
section
namespace Go.Proofs.Ytaloolcabmfjbaa
open Go.Sym
set_option linter.unusedVariables false
set_option linter.unusedSimpArgs false
set_option maxRecDepth 100000
set_option maxHeartbeats 4000000
noncomputable def opF (p : OpQ → Bool) (args : List V) : Option (List Bool × V) := match args with
 | [.agg [.int .i64 k, .str key, .str en, .str val, .int .u64 rev, .int .i64 lim, .bool cnt, .bool ks, .bool pv]] => some ([leI 0 rev, decide (key.size ≤ 1000000000), decide (en.size ≤ 1000000000), decide (val.size ≤ 1000000000)], .bool (p (k, key, en, val, rev, lim, cnt, ks, pv)))
 | _ => none
theorem opF_ok {P : Program} {g : FuncId} {p : OpQ → Bool} (h : ∀ (k : Int) (key en val : ByteArray) (rev lim : Int) (cnt ks pv : Bool), 0 ≤ rev → key.size ≤ 1000000000 → en.size ≤ 1000000000 → val.size ≤ 1000000000 → PureAt P g [opG (k, key, en, val, rev, lim, cnt, ks, pv)] (.bool (p (k, key, en, val, rev, lim, cnt, ks, pv))))
  (args : List V) (c : List Bool) (v : V) (hv : opF p args = some (c, v)) (hc : allB c) : PureAt P g args v := by
 unfold opF at hv
 split at hv
 ·cases hv
  obtain ⟨c1, c2, c3, c4, _⟩ := hc
  exact h _ _ _ _ _ _ _ _ _ (of_leI c1) (of_decide_eq_true c2) (of_decide_eq_true c3) (of_decide_eq_true c4)
 ·cases hv
noncomputable def cmF (p : CmQ → Bool) (args : List V) : Option (List Bool × V) := match args with
 | [.agg [.str key, .int .i64 w, .int .i64 h, .int .u64 n, .str val]] => some ([leI 0 n, decide (key.size ≤ 1000000000), decide (val.size ≤ 1000000000)], .bool (p (key, w, h, n, val)))
 | _ => none
theorem cmF_ok {P : Program} {g : FuncId} {p : CmQ → Bool} (h : ∀ (key : ByteArray) (w h n : Int) (val : ByteArray), 0 ≤ n → key.size ≤ 1000000000 → val.size ≤ 1000000000 → PureAt P g [cmG (key, w, h, n, val)] (.bool (p (key, w, h, n, val))))
  (args : List V) (c : List Bool) (v : V) (hv : cmF p args = some (c, v)) (hc : allB c) : PureAt P g args v := by
 unfold cmF at hv
 split at hv
 ·cases hv
  obtain ⟨c1, c2, c3, _⟩ := hc
  exact h _ _ _ _ _ (of_leI c1) (of_decide_eq_true c2) (of_decide_eq_true c3)
 ·cases hv
noncomputable def tabM1 : Tab := oneTab 42 (opF chgO) (oneTab 80 (opF mayO) (oneTab 104 (cmF mayC) (oneTab 83 (opF mayO) (oneTab 101 (cmF mayC) noTab))))
theorem tabM1_ok : TabOK Try.prog tabM1 := oneTab_ok (opF_ok fun k key en val rev lim cnt ks pv _ _ _ _ => chg_at k key en val rev lim cnt ks pv) (oneTab_ok (opF_ok mayO_at) (oneTab_ok (cmF_ok mayC_at) (oneTab_ok (opF_ok rmayO_at) (oneTab_ok (cmF_ok rmayC_at) noTab_ok))))
theorem badO_at (k : Int) (key en val : ByteArray) (rev lim : Int) (cnt ks pv : Bool) (hr : 0 ≤ rev) (z1 : key.size ≤ 1000000000) (z2 : en.size ≤ 1000000000) (z3 : val.size ≤ 1000000000) : PureAt Try.prog 79 [opG (k, key, en, val, rev, lim, cnt, ks, pv)] (.bool (badO (k, key, en, val, rev, lim, cnt, ks, pv))) := by
 have e := badO_eq (k, key, en, val, rev, lim, cnt, ks, pv)
 refine pure_of_W0 (tab := tabM1) (fuel := 4) (d := 4) tabM1_ok ?_
 repeat' ((conv => whnf); first | (with_reducible first | (refine W1.o ?_; constructor) | rfl | exact castL_self _ _) | ((with_reducible refine V.same_t ?_); exact rfl) | ((with_reducible refine andB_room ?_ ?_ ?_); (· kernel_rfl); (· (first | omega | (simp only [lens] <;> omega)))) | ((with_reducible refine W2.o ?_; constructor); · (first | (with_reducible assumption) | (first | omega | (simp only [lens] <;> omega)))) | ((with_reducible refine W3.o ?_; constructor); · (first | (with_reducible assumption) | (first | omega | (simp only [lens] <;> omega)))) | ((with_reducible refine W4.o ?_; constructor); · (first | (with_reducible first | assumption | exact decide_eq_true rfl | exact sEq_self _) | ((with_reducible refine eqOK_i ?_); kernel_rfl))) | ((with_reducible refine iteB_f ?_ ?_); · (first | (with_reducible first | assumption | exact decide_eq_true rfl | exact sEq_self _) | ((with_reducible refine eqOK_i ?_); kernel_rfl))) | (with_reducible refine W5.o ?_; constructor) | ((with_reducible refine W6.o ?_; constructor) <;> intro hB))
 all_goals ((conv => whnf); (try dsimp only); (try simp only [Nat.succ_eq_add_one, Nat.le_eq, castL_self]); (try omega))
 all_goals (try (first | omega | (simp only [lens] <;> omega)))
 all_goals first
  | (rw [e]; done)
  | (rw [e]; exact rfl)
  | trace_state
theorem badC_at (key : ByteArray) (w h n : Int) (val : ByteArray) (hn : 0 ≤ n) (z1 : key.size ≤ 1000000000) (z3 : val.size ≤ 1000000000) : PureAt Try.prog 100 [cmG (key, w, h, n, val)] (.bool (badC (key, w, h, n, val))) := by
 have e := badC_eq (key, w, h, n, val)
 refine pure_of_W0 (tab := tabM1) (fuel := 4) (d := 4) tabM1_ok ?_
 repeat' ((conv => whnf); first | (with_reducible first | (refine W1.o ?_; constructor) | rfl | exact castL_self _ _) | ((with_reducible refine V.same_t ?_); exact rfl) | ((with_reducible refine andB_room ?_ ?_ ?_); (· kernel_rfl); (· (first | omega | (simp only [lens] <;> omega)))) | ((with_reducible refine W2.o ?_; constructor); · (first | (with_reducible assumption) | (first | omega | (simp only [lens] <;> omega)))) | ((with_reducible refine W3.o ?_; constructor); · (first | (with_reducible assumption) | (first | omega | (simp only [lens] <;> omega)))) | ((with_reducible refine W4.o ?_; constructor); · (first | (with_reducible first | assumption | exact decide_eq_true rfl | exact sEq_self _) | ((with_reducible refine eqOK_i ?_); kernel_rfl))) | ((with_reducible refine iteB_f ?_ ?_); · (first | (with_reducible first | assumption | exact decide_eq_true rfl | exact sEq_self _) | ((with_reducible refine eqOK_i ?_); kernel_rfl))) | (with_reducible refine W5.o ?_; constructor) | ((with_reducible refine W6.o ?_; constructor) <;> intro hB))
 all_goals ((conv => whnf); (try dsimp only); (try simp only [Nat.succ_eq_add_one, Nat.le_eq, castL_self]); (try omega))
 all_goals (try (first | omega | (simp only [lens] <;> omega)))
 all_goals first
  | (rw [e]; done)
  | (rw [e]; exact rfl)
  | trace_state
noncomputable def tabM2 : Tab := oneTab 79 (opF badO) (oneTab 100 (cmF badC) tabM1)
theorem tabM2_ok : TabOK Try.prog tabM2 := oneTab_ok (opF_ok badO_at) (oneTab_ok (cmF_ok badC_at) tabM1_ok)
noncomputable def chgC (L : List OpQ) (i : Nat) : CD := ⟨19, [(0, .lst opT L false), (1, .fn 42 [] []), (7, .int .i64 (L.length : Int)), (8, .int .i64 (i : Int))], [], [], 0⟩
noncomputable def chgR (v : Int) : CD := ⟨19, [(4, .int .i64 v)], [], [], 0⟩
noncomputable def chgE : CD := ⟨19, [], [], [], 0⟩
theorem chg_ix (L : List OpQ) (hw : opW L = true) : PureAt Try.prog 84 [.lst opT L false, .fn 42 [] []] (.int .i64 (ixI chgO L)) := by
 rw [opW_iff] at hw
 have hx := ix_in chgO L
 have hl := hw.1
 have hm := fst0_le chgO L
 have key : ∀ i, i < L.length → i ≤ fst0 chgO L → True := fun _ _ _ => trivial
 rcases hx with ⟨x1, x2, x3⟩ | ⟨x1, x2, x3⟩
 ·refine pure_of_loop tabM2_ok (fuel := 4) (d := 4) 2 (X := { i : Nat // i ≤ fst0 chgO L }) (fun x => chgC L x.1) (fun x => fst0 chgO L - x.1)
   (fun _ => .leaf (.exit 0) chgE) ⟨0, Nat.zero_le _⟩ [] rfl ?_ ?_
  ·rintro ⟨i, hi⟩
   dsimp only
   rcases Nat.lt_or_ge i L.length with hlt | hge
   ·skip
    obtain ⟨w0, w1, w2, ⟨w3a, w3b⟩⟩ : (((Sym.rowAt opT L (Int.toNat (i : Int))).2.1).size ≤ 1000000) ∧ (((Sym.rowAt opT L (Int.toNat (i : Int))).2.2.1).size ≤ 1000000) ∧ (((Sym.rowAt opT L (Int.toNat (i : Int))).2.2.2.1).size ≤ 1000000) ∧ (@LE.le Int _ 0 (Sym.rowAt opT L (Int.toNat (i : Int))).2.2.2.2.1 ∧ @LT.lt Int _ (Sym.rowAt opT L (Int.toNat (i : Int))).2.2.2.2.1 18446744073709551616) := by rw [show Int.toNat (i : Int) = i from Int.toNat_natCast i]; exact hw.2 i hlt
    have hp := fst0_not chgO L (i := i) (by omega)
    have hp : chgO (Sym.rowAt opT L (Int.toNat (i : Int))) = false := by rw [show Int.toNat (i : Int) = i from Int.toNat_natCast i]; exact hp
    repeat' ((conv => whnf); first | (with_reducible first | (refine W1.o ?_; constructor) | rfl | exact castL_self _ _) | ((with_reducible refine V.same_t ?_); exact rfl) | ((with_reducible refine andB_room ?_ ?_ ?_); (· kernel_rfl); (· (first | omega | (simp only [lens] <;> omega)))) | ((with_reducible refine W2.o ?_; constructor); · (first | (with_reducible assumption) | (first | omega | (simp only [lens] <;> omega)))) | ((with_reducible refine W3.o ?_; constructor); · (first | (with_reducible assumption) | (first | omega | (simp only [lens] <;> omega)))) | ((with_reducible refine W4.o ?_; constructor); · (first | (with_reducible first | assumption | exact decide_eq_true rfl | exact sEq_self _) | ((with_reducible refine eqOK_i ?_); kernel_rfl) | (first | (exact hp)))) | ((with_reducible refine iteB_f ?_ ?_); · (first | (with_reducible first | assumption | exact decide_eq_true rfl | exact sEq_self _) | ((with_reducible refine eqOK_i ?_); kernel_rfl) | (first | (exact hp)))) | (refine ⟨⟨i + 1, (by omega)⟩, ?_, rfl, ?_⟩) | (with_reducible refine CD.wk_au ?_) | (with_reducible refine W5.o ?_; constructor) | ((with_reducible refine W6.o ?_; constructor) <;> intro hB))
    all_goals ((conv => whnf); (try dsimp only); (try simp only [Nat.succ_eq_add_one, Nat.le_eq, castL_self]); (try omega))
    all_goals (try (first | omega | (simp only [lens] <;> omega)))
    all_goals first
     | exact rfl
     | omega
     | trace_state
   ·have he : i = L.length := Nat.le_antisymm (Nat.le_trans hi hm) hge
    subst he
    repeat' ((conv => whnf); first | (with_reducible first | (refine W1.o ?_; constructor) | rfl | exact castL_self _ _) | ((with_reducible refine V.same_t ?_); exact rfl) | ((with_reducible refine andB_room ?_ ?_ ?_); (· kernel_rfl); (· (first | omega | (simp only [lens] <;> omega)))) | ((with_reducible refine W2.o ?_; constructor); · (first | (with_reducible assumption) | (first | omega | (simp only [lens] <;> omega)))) | ((with_reducible refine W3.o ?_; constructor); · (first | (with_reducible assumption) | (first | omega | (simp only [lens] <;> omega)))) | ((with_reducible refine W4.o ?_; constructor); · (first | (with_reducible first | assumption | exact decide_eq_true rfl | exact sEq_self _) | ((with_reducible refine eqOK_i ?_); kernel_rfl))) | ((with_reducible refine iteB_f ?_ ?_); · (first | (with_reducible first | assumption | exact decide_eq_true rfl | exact sEq_self _) | ((with_reducible refine eqOK_i ?_); kernel_rfl))) | (with_reducible refine CD.wk_au ?_) | (with_reducible refine W5.o ?_; constructor) | ((with_reducible refine W6.o ?_; constructor) <;> intro hB))
    all_goals ((conv => whnf); (try dsimp only); (try simp only [Nat.succ_eq_add_one, Nat.le_eq, castL_self]); (try omega))
    all_goals (try (first | omega | (simp only [lens] <;> omega)))
    all_goals first
     | exact rfl
     | trace_state
  ·repeat' ((conv => whnf); first | (with_reducible first | (refine W1.o ?_; constructor) | rfl | exact castL_self _ _) | ((with_reducible refine V.same_t ?_); exact rfl) | ((with_reducible refine andB_room ?_ ?_ ?_); (· kernel_rfl); (· (first | omega | (simp only [lens] <;> omega)))) | ((with_reducible refine W2.o ?_; constructor); · (first | (with_reducible assumption) | (first | omega | (simp only [lens] <;> omega)))) | ((with_reducible refine W3.o ?_; constructor); · (first | (with_reducible assumption) | (first | omega | (simp only [lens] <;> omega)))) | ((with_reducible refine W4.o ?_; constructor); · (first | (with_reducible first | assumption | exact decide_eq_true rfl | exact sEq_self _) | ((with_reducible refine eqOK_i ?_); kernel_rfl))) | ((with_reducible refine iteB_f ?_ ?_); · (first | (with_reducible first | assumption | exact decide_eq_true rfl | exact sEq_self _) | ((with_reducible refine eqOK_i ?_); kernel_rfl))) | (with_reducible refine CD.wk_au ?_) | (with_reducible refine W5.o ?_; constructor) | ((with_reducible refine W6.o ?_; constructor) <;> intro hB))
   all_goals ((conv => whnf); (try dsimp only); (try simp only [Nat.succ_eq_add_one, Nat.le_eq, castL_self]); (try omega))
   all_goals (try (first | omega | (simp only [lens] <;> omega)))
   all_goals first
    | exact rfl
    | (rw [x1]; done)
    | trace_state
 ·refine pure_of_loop tabM2_ok (fuel := 4) (d := 4) 2 (X := { i : Nat // i ≤ fst0 chgO L }) (fun x => chgC L x.1) (fun x => fst0 chgO L - x.1)
   (fun _ => .leaf .ret (chgR (fst0 chgO L : Int))) ⟨0, Nat.zero_le _⟩ [] rfl ?_ ?_
  ·rintro ⟨i, hi⟩
   dsimp only
   have hlt : i < L.length := by omega
   obtain ⟨w0, w1, w2, ⟨w3a, w3b⟩⟩ : (((Sym.rowAt opT L (Int.toNat (i : Int))).2.1).size ≤ 1000000) ∧ (((Sym.rowAt opT L (Int.toNat (i : Int))).2.2.1).size ≤ 1000000) ∧ (((Sym.rowAt opT L (Int.toNat (i : Int))).2.2.2.1).size ≤ 1000000) ∧ (@LE.le Int _ 0 (Sym.rowAt opT L (Int.toNat (i : Int))).2.2.2.2.1 ∧ @LT.lt Int _ (Sym.rowAt opT L (Int.toNat (i : Int))).2.2.2.2.1 18446744073709551616) := by rw [show Int.toNat (i : Int) = i from Int.toNat_natCast i]; exact hw.2 i hlt
   rcases Nat.lt_or_ge i (fst0 chgO L) with hlf | hgf
   ·have hp := fst0_not chgO L hlf
    have hp : chgO (Sym.rowAt opT L (Int.toNat (i : Int))) = false := by rw [show Int.toNat (i : Int) = i from Int.toNat_natCast i]; exact hp
    repeat' ((conv => whnf); first | (with_reducible first | (refine W1.o ?_; constructor) | rfl | exact castL_self _ _) | ((with_reducible refine V.same_t ?_); exact rfl) | ((with_reducible refine andB_room ?_ ?_ ?_); (· kernel_rfl); (· (first | omega | (simp only [lens] <;> omega)))) | ((with_reducible refine W2.o ?_; constructor); · (first | (with_reducible assumption) | (first | omega | (simp only [lens] <;> omega)))) | ((with_reducible refine W3.o ?_; constructor); · (first | (with_reducible assumption) | (first | omega | (simp only [lens] <;> omega)))) | ((with_reducible refine W4.o ?_; constructor); · (first | (with_reducible first | assumption | exact decide_eq_true rfl | exact sEq_self _) | ((with_reducible refine eqOK_i ?_); kernel_rfl) | (first | (exact hp)))) | ((with_reducible refine iteB_f ?_ ?_); · (first | (with_reducible first | assumption | exact decide_eq_true rfl | exact sEq_self _) | ((with_reducible refine eqOK_i ?_); kernel_rfl) | (first | (exact hp)))) | (refine ⟨⟨i + 1, hlf⟩, ?_, rfl, ?_⟩) | (with_reducible refine CD.wk_au ?_) | (with_reducible refine W5.o ?_; constructor) | ((with_reducible refine W6.o ?_; constructor) <;> intro hB))
    all_goals ((conv => whnf); (try dsimp only); (try simp only [Nat.succ_eq_add_one, Nat.le_eq, castL_self]); (try omega))
    all_goals (try (first | omega | (simp only [lens] <;> omega)))
    all_goals first
     | exact rfl
     | omega
     | trace_state
   ·have he : i = fst0 chgO L := Nat.le_antisymm hi hgf
    have hp := fst0_is chgO L (by omega)
    rw [← he] at hp
    have hp : chgO (Sym.rowAt opT L (Int.toNat (i : Int))) = true := by rw [show Int.toNat (i : Int) = i from Int.toNat_natCast i]; exact hp
    repeat' ((conv => whnf); first | (with_reducible first | (refine W1.o ?_; constructor) | rfl | exact castL_self _ _) | ((with_reducible refine V.same_t ?_); exact rfl) | ((with_reducible refine andB_room ?_ ?_ ?_); (· kernel_rfl); (· (first | omega | (simp only [lens] <;> omega)))) | ((with_reducible refine W2.o ?_; constructor); · (first | (with_reducible assumption) | (first | omega | (simp only [lens] <;> omega)))) | ((with_reducible refine W3.o ?_; constructor); · (first | (with_reducible assumption) | (first | omega | (simp only [lens] <;> omega)))) | ((with_reducible refine W4.o ?_; constructor); · (first | (with_reducible first | assumption | exact decide_eq_true rfl | exact sEq_self _) | ((with_reducible refine eqOK_i ?_); kernel_rfl) | (first | (exact hp)))) | ((with_reducible refine iteB_f ?_ ?_); · (first | (with_reducible first | assumption | exact decide_eq_true rfl | exact sEq_self _) | ((with_reducible refine eqOK_i ?_); kernel_rfl) | (first | (exact hp)))) | (with_reducible refine CD.wk_au ?_) | (with_reducible refine W5.o ?_; constructor) | ((with_reducible refine W6.o ?_; constructor) <;> intro hB))
    all_goals ((conv => whnf); (try dsimp only); (try simp only [Nat.succ_eq_add_one, Nat.le_eq, castL_self]); (try omega))
    all_goals (try (first | omega | (simp only [lens] <;> omega)))
    all_goals first
     | exact rfl
     | exact congrArg (Nat.cast : Nat → Int) he
     | omega
     | trace_state
  ·repeat' ((conv => whnf); first | (with_reducible first | (refine W1.o ?_; constructor) | rfl | exact castL_self _ _) | ((with_reducible refine V.same_t ?_); exact rfl) | ((with_reducible refine andB_room ?_ ?_ ?_); (· kernel_rfl); (· (first | omega | (simp only [lens] <;> omega)))) | ((with_reducible refine W2.o ?_; constructor); · (first | (with_reducible assumption) | (first | omega | (simp only [lens] <;> omega)))) | ((with_reducible refine W3.o ?_; constructor); · (first | (with_reducible assumption) | (first | omega | (simp only [lens] <;> omega)))) | ((with_reducible refine W4.o ?_; constructor); · (first | (with_reducible first | assumption | exact decide_eq_true rfl | exact sEq_self _) | ((with_reducible refine eqOK_i ?_); kernel_rfl))) | ((with_reducible refine iteB_f ?_ ?_); · (first | (with_reducible first | assumption | exact decide_eq_true rfl | exact sEq_self _) | ((with_reducible refine eqOK_i ?_); kernel_rfl))) | (with_reducible refine CD.wk_au ?_) | (with_reducible refine W5.o ?_; constructor) | ((with_reducible refine W6.o ?_; constructor) <;> intro hB))
   all_goals ((conv => whnf); (try dsimp only); (try simp only [Nat.succ_eq_add_one, Nat.le_eq, castL_self]); (try omega))
   all_goals (try (first | omega | (simp only [lens] <;> omega)))
   all_goals first
    | exact rfl
    | (rw [x1]; done)
    | exact x1.symm
    | trace_state
noncomputable def bdoC (L : List OpQ) (i : Nat) : CD := ⟨19, [(0, .lst opT L false), (1, .fn 79 [] []), (7, .int .i64 (L.length : Int)), (8, .int .i64 (i : Int))], [], [], 0⟩
noncomputable def bdoR (v : Int) : CD := ⟨19, [(4, .int .i64 v)], [], [], 0⟩
noncomputable def bdoE : CD := ⟨19, [], [], [], 0⟩
theorem bdo_ix (L : List OpQ) (hw : opW L = true) : PureAt Try.prog 84 [.lst opT L false, .fn 79 [] []] (.int .i64 (ixI badO L)) := by
 rw [opW_iff] at hw
 have hx := ix_in badO L
 have hl := hw.1
 have hm := fst0_le badO L
 have key : ∀ i, i < L.length → i ≤ fst0 badO L → True := fun _ _ _ => trivial
 rcases hx with ⟨x1, x2, x3⟩ | ⟨x1, x2, x3⟩
 ·refine pure_of_loop tabM2_ok (fuel := 4) (d := 4) 2 (X := { i : Nat // i ≤ fst0 badO L }) (fun x => bdoC L x.1) (fun x => fst0 badO L - x.1)
   (fun _ => .leaf (.exit 0) bdoE) ⟨0, Nat.zero_le _⟩ [] rfl ?_ ?_
  ·rintro ⟨i, hi⟩
   dsimp only
   rcases Nat.lt_or_ge i L.length with hlt | hge
   ·skip
    obtain ⟨w0, w1, w2, ⟨w3a, w3b⟩⟩ : (((Sym.rowAt opT L (Int.toNat (i : Int))).2.1).size ≤ 1000000) ∧ (((Sym.rowAt opT L (Int.toNat (i : Int))).2.2.1).size ≤ 1000000) ∧ (((Sym.rowAt opT L (Int.toNat (i : Int))).2.2.2.1).size ≤ 1000000) ∧ (@LE.le Int _ 0 (Sym.rowAt opT L (Int.toNat (i : Int))).2.2.2.2.1 ∧ @LT.lt Int _ (Sym.rowAt opT L (Int.toNat (i : Int))).2.2.2.2.1 18446744073709551616) := by rw [show Int.toNat (i : Int) = i from Int.toNat_natCast i]; exact hw.2 i hlt
    have hp := fst0_not badO L (i := i) (by omega)
    have hp : badO (Sym.rowAt opT L (Int.toNat (i : Int))) = false := by rw [show Int.toNat (i : Int) = i from Int.toNat_natCast i]; exact hp
    repeat' ((conv => whnf); first | (with_reducible first | (refine W1.o ?_; constructor) | rfl | exact castL_self _ _) | ((with_reducible refine V.same_t ?_); exact rfl) | ((with_reducible refine andB_room ?_ ?_ ?_); (· kernel_rfl); (· (first | omega | (simp only [lens] <;> omega)))) | ((with_reducible refine W2.o ?_; constructor); · (first | (with_reducible assumption) | (first | omega | (simp only [lens] <;> omega)))) | ((with_reducible refine W3.o ?_; constructor); · (first | (with_reducible assumption) | (first | omega | (simp only [lens] <;> omega)))) | ((with_reducible refine W4.o ?_; constructor); · (first | (with_reducible first | assumption | exact decide_eq_true rfl | exact sEq_self _) | ((with_reducible refine eqOK_i ?_); kernel_rfl) | (first | (exact hp)))) | ((with_reducible refine iteB_f ?_ ?_); · (first | (with_reducible first | assumption | exact decide_eq_true rfl | exact sEq_self _) | ((with_reducible refine eqOK_i ?_); kernel_rfl) | (first | (exact hp)))) | (refine ⟨⟨i + 1, (by omega)⟩, ?_, rfl, ?_⟩) | (with_reducible refine CD.wk_au ?_) | (with_reducible refine W5.o ?_; constructor) | ((with_reducible refine W6.o ?_; constructor) <;> intro hB))
    all_goals ((conv => whnf); (try dsimp only); (try simp only [Nat.succ_eq_add_one, Nat.le_eq, castL_self]); (try omega))
    all_goals (try (first | omega | (simp only [lens] <;> omega)))
    all_goals first
     | exact rfl
     | omega
     | trace_state
   ·have he : i = L.length := Nat.le_antisymm (Nat.le_trans hi hm) hge
    subst he
    repeat' ((conv => whnf); first | (with_reducible first | (refine W1.o ?_; constructor) | rfl | exact castL_self _ _) | ((with_reducible refine V.same_t ?_); exact rfl) | ((with_reducible refine andB_room ?_ ?_ ?_); (· kernel_rfl); (· (first | omega | (simp only [lens] <;> omega)))) | ((with_reducible refine W2.o ?_; constructor); · (first | (with_reducible assumption) | (first | omega | (simp only [lens] <;> omega)))) | ((with_reducible refine W3.o ?_; constructor); · (first | (with_reducible assumption) | (first | omega | (simp only [lens] <;> omega)))) | ((with_reducible refine W4.o ?_; constructor); · (first | (with_reducible first | assumption | exact decide_eq_true rfl | exact sEq_self _) | ((with_reducible refine eqOK_i ?_); kernel_rfl))) | ((with_reducible refine iteB_f ?_ ?_); · (first | (with_reducible first | assumption | exact decide_eq_true rfl | exact sEq_self _) | ((with_reducible refine eqOK_i ?_); kernel_rfl))) | (with_reducible refine CD.wk_au ?_) | (with_reducible refine W5.o ?_; constructor) | ((with_reducible refine W6.o ?_; constructor) <;> intro hB))
    all_goals ((conv => whnf); (try dsimp only); (try simp only [Nat.succ_eq_add_one, Nat.le_eq, castL_self]); (try omega))
    all_goals (try (first | omega | (simp only [lens] <;> omega)))
    all_goals first
     | exact rfl
     | trace_state
  ·repeat' ((conv => whnf); first | (with_reducible first | (refine W1.o ?_; constructor) | rfl | exact castL_self _ _) | ((with_reducible refine V.same_t ?_); exact rfl) | ((with_reducible refine andB_room ?_ ?_ ?_); (· kernel_rfl); (· (first | omega | (simp only [lens] <;> omega)))) | ((with_reducible refine W2.o ?_; constructor); · (first | (with_reducible assumption) | (first | omega | (simp only [lens] <;> omega)))) | ((with_reducible refine W3.o ?_; constructor); · (first | (with_reducible assumption) | (first | omega | (simp only [lens] <;> omega)))) | ((with_reducible refine W4.o ?_; constructor); · (first | (with_reducible first | assumption | exact decide_eq_true rfl | exact sEq_self _) | ((with_reducible refine eqOK_i ?_); kernel_rfl))) | ((with_reducible refine iteB_f ?_ ?_); · (first | (with_reducible first | assumption | exact decide_eq_true rfl | exact sEq_self _) | ((with_reducible refine eqOK_i ?_); kernel_rfl))) | (with_reducible refine CD.wk_au ?_) | (with_reducible refine W5.o ?_; constructor) | ((with_reducible refine W6.o ?_; constructor) <;> intro hB))
   all_goals ((conv => whnf); (try dsimp only); (try simp only [Nat.succ_eq_add_one, Nat.le_eq, castL_self]); (try omega))
   all_goals (try (first | omega | (simp only [lens] <;> omega)))
   all_goals first
    | exact rfl
    | (rw [x1]; done)
    | trace_state
 ·refine pure_of_loop tabM2_ok (fuel := 4) (d := 4) 2 (X := { i : Nat // i ≤ fst0 badO L }) (fun x => bdoC L x.1) (fun x => fst0 badO L - x.1)
   (fun _ => .leaf .ret (bdoR (fst0 badO L : Int))) ⟨0, Nat.zero_le _⟩ [] rfl ?_ ?_
  ·rintro ⟨i, hi⟩
   dsimp only
   have hlt : i < L.length := by omega
   obtain ⟨w0, w1, w2, ⟨w3a, w3b⟩⟩ : (((Sym.rowAt opT L (Int.toNat (i : Int))).2.1).size ≤ 1000000) ∧ (((Sym.rowAt opT L (Int.toNat (i : Int))).2.2.1).size ≤ 1000000) ∧ (((Sym.rowAt opT L (Int.toNat (i : Int))).2.2.2.1).size ≤ 1000000) ∧ (@LE.le Int _ 0 (Sym.rowAt opT L (Int.toNat (i : Int))).2.2.2.2.1 ∧ @LT.lt Int _ (Sym.rowAt opT L (Int.toNat (i : Int))).2.2.2.2.1 18446744073709551616) := by rw [show Int.toNat (i : Int) = i from Int.toNat_natCast i]; exact hw.2 i hlt
   rcases Nat.lt_or_ge i (fst0 badO L) with hlf | hgf
   ·have hp := fst0_not badO L hlf
    have hp : badO (Sym.rowAt opT L (Int.toNat (i : Int))) = false := by rw [show Int.toNat (i : Int) = i from Int.toNat_natCast i]; exact hp
    repeat' ((conv => whnf); first | (with_reducible first | (refine W1.o ?_; constructor) | rfl | exact castL_self _ _) | ((with_reducible refine V.same_t ?_); exact rfl) | ((with_reducible refine andB_room ?_ ?_ ?_); (· kernel_rfl); (· (first | omega | (simp only [lens] <;> omega)))) | ((with_reducible refine W2.o ?_; constructor); · (first | (with_reducible assumption) | (first | omega | (simp only [lens] <;> omega)))) | ((with_reducible refine W3.o ?_; constructor); · (first | (with_reducible assumption) | (first | omega | (simp only [lens] <;> omega)))) | ((with_reducible refine W4.o ?_; constructor); · (first | (with_reducible first | assumption | exact decide_eq_true rfl | exact sEq_self _) | ((with_reducible refine eqOK_i ?_); kernel_rfl) | (first | (exact hp)))) | ((with_reducible refine iteB_f ?_ ?_); · (first | (with_reducible first | assumption | exact decide_eq_true rfl | exact sEq_self _) | ((with_reducible refine eqOK_i ?_); kernel_rfl) | (first | (exact hp)))) | (refine ⟨⟨i + 1, hlf⟩, ?_, rfl, ?_⟩) | (with_reducible refine CD.wk_au ?_) | (with_reducible refine W5.o ?_; constructor) | ((with_reducible refine W6.o ?_; constructor) <;> intro hB))
    all_goals ((conv => whnf); (try dsimp only); (try simp only [Nat.succ_eq_add_one, Nat.le_eq, castL_self]); (try omega))
    all_goals (try (first | omega | (simp only [lens] <;> omega)))
    all_goals first
     | exact rfl
     | omega
     | trace_state
   ·have he : i = fst0 badO L := Nat.le_antisymm hi hgf
    have hp := fst0_is badO L (by omega)
    rw [← he] at hp
    have hp : badO (Sym.rowAt opT L (Int.toNat (i : Int))) = true := by rw [show Int.toNat (i : Int) = i from Int.toNat_natCast i]; exact hp
    repeat' ((conv => whnf); first | (with_reducible first | (refine W1.o ?_; constructor) | rfl | exact castL_self _ _) | ((with_reducible refine V.same_t ?_); exact rfl) | ((with_reducible refine andB_room ?_ ?_ ?_); (· kernel_rfl); (· (first | omega | (simp only [lens] <;> omega)))) | ((with_reducible refine W2.o ?_; constructor); · (first | (with_reducible assumption) | (first | omega | (simp only [lens] <;> omega)))) | ((with_reducible refine W3.o ?_; constructor); · (first | (with_reducible assumption) | (first | omega | (simp only [lens] <;> omega)))) | ((with_reducible refine W4.o ?_; constructor); · (first | (with_reducible first | assumption | exact decide_eq_true rfl | exact sEq_self _) | ((with_reducible refine eqOK_i ?_); kernel_rfl) | (first | (exact hp)))) | ((with_reducible refine iteB_f ?_ ?_); · (first | (with_reducible first | assumption | exact decide_eq_true rfl | exact sEq_self _) | ((with_reducible refine eqOK_i ?_); kernel_rfl) | (first | (exact hp)))) | (with_reducible refine CD.wk_au ?_) | (with_reducible refine W5.o ?_; constructor) | ((with_reducible refine W6.o ?_; constructor) <;> intro hB))
    all_goals ((conv => whnf); (try dsimp only); (try simp only [Nat.succ_eq_add_one, Nat.le_eq, castL_self]); (try omega))
    all_goals (try (first | omega | (simp only [lens] <;> omega)))
    all_goals first
     | exact rfl
     | exact congrArg (Nat.cast : Nat → Int) he
     | omega
     | trace_state
  ·repeat' ((conv => whnf); first | (with_reducible first | (refine W1.o ?_; constructor) | rfl | exact castL_self _ _) | ((with_reducible refine V.same_t ?_); exact rfl) | ((with_reducible refine andB_room ?_ ?_ ?_); (· kernel_rfl); (· (first | omega | (simp only [lens] <;> omega)))) | ((with_reducible refine W2.o ?_; constructor); · (first | (with_reducible assumption) | (first | omega | (simp only [lens] <;> omega)))) | ((with_reducible refine W3.o ?_; constructor); · (first | (with_reducible assumption) | (first | omega | (simp only [lens] <;> omega)))) | ((with_reducible refine W4.o ?_; constructor); · (first | (with_reducible first | assumption | exact decide_eq_true rfl | exact sEq_self _) | ((with_reducible refine eqOK_i ?_); kernel_rfl))) | ((with_reducible refine iteB_f ?_ ?_); · (first | (with_reducible first | assumption | exact decide_eq_true rfl | exact sEq_self _) | ((with_reducible refine eqOK_i ?_); kernel_rfl))) | (with_reducible refine CD.wk_au ?_) | (with_reducible refine W5.o ?_; constructor) | ((with_reducible refine W6.o ?_; constructor) <;> intro hB))
   all_goals ((conv => whnf); (try dsimp only); (try simp only [Nat.succ_eq_add_one, Nat.le_eq, castL_self]); (try omega))
   all_goals (try (first | omega | (simp only [lens] <;> omega)))
   all_goals first
    | exact rfl
    | (rw [x1]; done)
    | exact x1.symm
    | trace_state
noncomputable def bdcC (L : List CmQ) (i : Nat) : CD := ⟨19, [(0, .lst cmT L false), (1, .fn 100 [] []), (7, .int .i64 (L.length : Int)), (8, .int .i64 (i : Int))], [], [], 0⟩
noncomputable def bdcR (v : Int) : CD := ⟨19, [(4, .int .i64 v)], [], [], 0⟩
noncomputable def bdcE : CD := ⟨19, [], [], [], 0⟩
theorem bdc_ix (L : List CmQ) (hw : cmW L = true) : PureAt Try.prog 103 [.lst cmT L false, .fn 100 [] []] (.int .i64 (ixI badC L)) := by
 rw [cmW_iff] at hw
 have hx := ix_in badC L
 have hl := hw.1
 have hm := fst0_le badC L
 have key : ∀ i, i < L.length → i ≤ fst0 badC L → True := fun _ _ _ => trivial
 rcases hx with ⟨x1, x2, x3⟩ | ⟨x1, x2, x3⟩
 ·refine pure_of_loop tabM2_ok (fuel := 4) (d := 4) 2 (X := { i : Nat // i ≤ fst0 badC L }) (fun x => bdcC L x.1) (fun x => fst0 badC L - x.1)
   (fun _ => .leaf (.exit 0) bdcE) ⟨0, Nat.zero_le _⟩ [] rfl ?_ ?_
  ·rintro ⟨i, hi⟩
   dsimp only
   rcases Nat.lt_or_ge i L.length with hlt | hge
   ·skip
    obtain ⟨w0, ⟨w1a, w1b⟩, w2⟩ : (((Sym.rowAt cmT L (Int.toNat (i : Int))).1).size ≤ 1000000) ∧ (@LE.le Int _ 0 (Sym.rowAt cmT L (Int.toNat (i : Int))).2.2.2.1 ∧ @LT.lt Int _ (Sym.rowAt cmT L (Int.toNat (i : Int))).2.2.2.1 18446744073709551616) ∧ (((Sym.rowAt cmT L (Int.toNat (i : Int))).2.2.2.2).size ≤ 1000000) := by rw [show Int.toNat (i : Int) = i from Int.toNat_natCast i]; exact hw.2 i hlt
    have hp := fst0_not badC L (i := i) (by omega)
    have hp : badC (Sym.rowAt cmT L (Int.toNat (i : Int))) = false := by rw [show Int.toNat (i : Int) = i from Int.toNat_natCast i]; exact hp
    repeat' ((conv => whnf); first | (with_reducible first | (refine W1.o ?_; constructor) | rfl | exact castL_self _ _) | ((with_reducible refine V.same_t ?_); exact rfl) | ((with_reducible refine andB_room ?_ ?_ ?_); (· kernel_rfl); (· (first | omega | (simp only [lens] <;> omega)))) | ((with_reducible refine W2.o ?_; constructor); · (first | (with_reducible assumption) | (first | omega | (simp only [lens] <;> omega)))) | ((with_reducible refine W3.o ?_; constructor); · (first | (with_reducible assumption) | (first | omega | (simp only [lens] <;> omega)))) | ((with_reducible refine W4.o ?_; constructor); · (first | (with_reducible first | assumption | exact decide_eq_true rfl | exact sEq_self _) | ((with_reducible refine eqOK_i ?_); kernel_rfl) | (first | (exact hp)))) | ((with_reducible refine iteB_f ?_ ?_); · (first | (with_reducible first | assumption | exact decide_eq_true rfl | exact sEq_self _) | ((with_reducible refine eqOK_i ?_); kernel_rfl) | (first | (exact hp)))) | (refine ⟨⟨i + 1, (by omega)⟩, ?_, rfl, ?_⟩) | (with_reducible refine CD.wk_au ?_) | (with_reducible refine W5.o ?_; constructor) | ((with_reducible refine W6.o ?_; constructor) <;> intro hB))
    all_goals ((conv => whnf); (try dsimp only); (try simp only [Nat.succ_eq_add_one, Nat.le_eq, castL_self]); (try omega))
    all_goals (try (first | omega | (simp only [lens] <;> omega)))
    all_goals first
     | exact rfl
     | omega
     | trace_state
   ·have he : i = L.length := Nat.le_antisymm (Nat.le_trans hi hm) hge
    subst he
    repeat' ((conv => whnf); first | (with_reducible first | (refine W1.o ?_; constructor) | rfl | exact castL_self _ _) | ((with_reducible refine V.same_t ?_); exact rfl) | ((with_reducible refine andB_room ?_ ?_ ?_); (· kernel_rfl); (· (first | omega | (simp only [lens] <;> omega)))) | ((with_reducible refine W2.o ?_; constructor); · (first | (with_reducible assumption) | (first | omega | (simp only [lens] <;> omega)))) | ((with_reducible refine W3.o ?_; constructor); · (first | (with_reducible assumption) | (first | omega | (simp only [lens] <;> omega)))) | ((with_reducible refine W4.o ?_; constructor); · (first | (with_reducible first | assumption | exact decide_eq_true rfl | exact sEq_self _) | ((with_reducible refine eqOK_i ?_); kernel_rfl))) | ((with_reducible refine iteB_f ?_ ?_); · (first | (with_reducible first | assumption | exact decide_eq_true rfl | exact sEq_self _) | ((with_reducible refine eqOK_i ?_); kernel_rfl))) | (with_reducible refine CD.wk_au ?_) | (with_reducible refine W5.o ?_; constructor) | ((with_reducible refine W6.o ?_; constructor) <;> intro hB))
    all_goals ((conv => whnf); (try dsimp only); (try simp only [Nat.succ_eq_add_one, Nat.le_eq, castL_self]); (try omega))
    all_goals (try (first | omega | (simp only [lens] <;> omega)))
    all_goals first
     | exact rfl
     | trace_state
  ·repeat' ((conv => whnf); first | (with_reducible first | (refine W1.o ?_; constructor) | rfl | exact castL_self _ _) | ((with_reducible refine V.same_t ?_); exact rfl) | ((with_reducible refine andB_room ?_ ?_ ?_); (· kernel_rfl); (· (first | omega | (simp only [lens] <;> omega)))) | ((with_reducible refine W2.o ?_; constructor); · (first | (with_reducible assumption) | (first | omega | (simp only [lens] <;> omega)))) | ((with_reducible refine W3.o ?_; constructor); · (first | (with_reducible assumption) | (first | omega | (simp only [lens] <;> omega)))) | ((with_reducible refine W4.o ?_; constructor); · (first | (with_reducible first | assumption | exact decide_eq_true rfl | exact sEq_self _) | ((with_reducible refine eqOK_i ?_); kernel_rfl))) | ((with_reducible refine iteB_f ?_ ?_); · (first | (with_reducible first | assumption | exact decide_eq_true rfl | exact sEq_self _) | ((with_reducible refine eqOK_i ?_); kernel_rfl))) | (with_reducible refine CD.wk_au ?_) | (with_reducible refine W5.o ?_; constructor) | ((with_reducible refine W6.o ?_; constructor) <;> intro hB))
   all_goals ((conv => whnf); (try dsimp only); (try simp only [Nat.succ_eq_add_one, Nat.le_eq, castL_self]); (try omega))
   all_goals (try (first | omega | (simp only [lens] <;> omega)))
   all_goals first
    | exact rfl
    | (rw [x1]; done)
    | trace_state
 ·refine pure_of_loop tabM2_ok (fuel := 4) (d := 4) 2 (X := { i : Nat // i ≤ fst0 badC L }) (fun x => bdcC L x.1) (fun x => fst0 badC L - x.1)
   (fun _ => .leaf .ret (bdcR (fst0 badC L : Int))) ⟨0, Nat.zero_le _⟩ [] rfl ?_ ?_
  ·rintro ⟨i, hi⟩
   dsimp only
   have hlt : i < L.length := by omega
   obtain ⟨w0, ⟨w1a, w1b⟩, w2⟩ : (((Sym.rowAt cmT L (Int.toNat (i : Int))).1).size ≤ 1000000) ∧ (@LE.le Int _ 0 (Sym.rowAt cmT L (Int.toNat (i : Int))).2.2.2.1 ∧ @LT.lt Int _ (Sym.rowAt cmT L (Int.toNat (i : Int))).2.2.2.1 18446744073709551616) ∧ (((Sym.rowAt cmT L (Int.toNat (i : Int))).2.2.2.2).size ≤ 1000000) := by rw [show Int.toNat (i : Int) = i from Int.toNat_natCast i]; exact hw.2 i hlt
   rcases Nat.lt_or_ge i (fst0 badC L) with hlf | hgf
   ·have hp := fst0_not badC L hlf
    have hp : badC (Sym.rowAt cmT L (Int.toNat (i : Int))) = false := by rw [show Int.toNat (i : Int) = i from Int.toNat_natCast i]; exact hp
    repeat' ((conv => whnf); first | (with_reducible first | (refine W1.o ?_; constructor) | rfl | exact castL_self _ _) | ((with_reducible refine V.same_t ?_); exact rfl) | ((with_reducible refine andB_room ?_ ?_ ?_); (· kernel_rfl); (· (first | omega | (simp only [lens] <;> omega)))) | ((with_reducible refine W2.o ?_; constructor); · (first | (with_reducible assumption) | (first | omega | (simp only [lens] <;> omega)))) | ((with_reducible refine W3.o ?_; constructor); · (first | (with_reducible assumption) | (first | omega | (simp only [lens] <;> omega)))) | ((with_reducible refine W4.o ?_; constructor); · (first | (with_reducible first | assumption | exact decide_eq_true rfl | exact sEq_self _) | ((with_reducible refine eqOK_i ?_); kernel_rfl) | (first | (exact hp)))) | ((with_reducible refine iteB_f ?_ ?_); · (first | (with_reducible first | assumption | exact decide_eq_true rfl | exact sEq_self _) | ((with_reducible refine eqOK_i ?_); kernel_rfl) | (first | (exact hp)))) | (refine ⟨⟨i + 1, hlf⟩, ?_, rfl, ?_⟩) | (with_reducible refine CD.wk_au ?_) | (with_reducible refine W5.o ?_; constructor) | ((with_reducible refine W6.o ?_; constructor) <;> intro hB))
    all_goals ((conv => whnf); (try dsimp only); (try simp only [Nat.succ_eq_add_one, Nat.le_eq, castL_self]); (try omega))
    all_goals (try (first | omega | (simp only [lens] <;> omega)))
    all_goals first
     | exact rfl
     | omega
     | trace_state
   ·have he : i = fst0 badC L := Nat.le_antisymm hi hgf
    have hp := fst0_is badC L (by omega)
    rw [← he] at hp
    have hp : badC (Sym.rowAt cmT L (Int.toNat (i : Int))) = true := by rw [show Int.toNat (i : Int) = i from Int.toNat_natCast i]; exact hp
    repeat' ((conv => whnf); first | (with_reducible first | (refine W1.o ?_; constructor) | rfl | exact castL_self _ _) | ((with_reducible refine V.same_t ?_); exact rfl) | ((with_reducible refine andB_room ?_ ?_ ?_); (· kernel_rfl); (· (first | omega | (simp only [lens] <;> omega)))) | ((with_reducible refine W2.o ?_; constructor); · (first | (with_reducible assumption) | (first | omega | (simp only [lens] <;> omega)))) | ((with_reducible refine W3.o ?_; constructor); · (first | (with_reducible assumption) | (first | omega | (simp only [lens] <;> omega)))) | ((with_reducible refine W4.o ?_; constructor); · (first | (with_reducible first | assumption | exact decide_eq_true rfl | exact sEq_self _) | ((with_reducible refine eqOK_i ?_); kernel_rfl) | (first | (exact hp)))) | ((with_reducible refine iteB_f ?_ ?_); · (first | (with_reducible first | assumption | exact decide_eq_true rfl | exact sEq_self _) | ((with_reducible refine eqOK_i ?_); kernel_rfl) | (first | (exact hp)))) | (with_reducible refine CD.wk_au ?_) | (with_reducible refine W5.o ?_; constructor) | ((with_reducible refine W6.o ?_; constructor) <;> intro hB))
    all_goals ((conv => whnf); (try dsimp only); (try simp only [Nat.succ_eq_add_one, Nat.le_eq, castL_self]); (try omega))
    all_goals (try (first | omega | (simp only [lens] <;> omega)))
    all_goals first
     | exact rfl
     | exact congrArg (Nat.cast : Nat → Int) he
     | omega
     | trace_state
  ·repeat' ((conv => whnf); first | (with_reducible first | (refine W1.o ?_; constructor) | rfl | exact castL_self _ _) | ((with_reducible refine V.same_t ?_); exact rfl) | ((with_reducible refine andB_room ?_ ?_ ?_); (· kernel_rfl); (· (first | omega | (simp only [lens] <;> omega)))) | ((with_reducible refine W2.o ?_; constructor); · (first | (with_reducible assumption) | (first | omega | (simp only [lens] <;> omega)))) | ((with_reducible refine W3.o ?_; constructor); · (first | (with_reducible assumption) | (first | omega | (simp only [lens] <;> omega)))) | ((with_reducible refine W4.o ?_; constructor); · (first | (with_reducible first | assumption | exact decide_eq_true rfl | exact sEq_self _) | ((with_reducible refine eqOK_i ?_); kernel_rfl))) | ((with_reducible refine iteB_f ?_ ?_); · (first | (with_reducible first | assumption | exact decide_eq_true rfl | exact sEq_self _) | ((with_reducible refine eqOK_i ?_); kernel_rfl))) | (with_reducible refine CD.wk_au ?_) | (with_reducible refine W5.o ?_; constructor) | ((with_reducible refine W6.o ?_; constructor) <;> intro hB))
   all_goals ((conv => whnf); (try dsimp only); (try simp only [Nat.succ_eq_add_one, Nat.le_eq, castL_self]); (try omega))
   all_goals (try (first | omega | (simp only [lens] <;> omega)))
   all_goals first
    | exact rfl
    | (rw [x1]; done)
    | exact x1.symm
    | trace_state
end Go.Proofs.Ytaloolcabmfjbaa
end
