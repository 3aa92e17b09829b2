/-
  Texts of this claim, one behind the other: CdGet. Each says its own conditions.
-/
import Derived.Test.YtaloolcabmfjbaaCdrM8
import Derived.Test.YtaloolcabmfjbaaCdrM7

set_option linter.unusedVariables false
set_option linter.unusedSimpArgs false
set_option linter.unusedSectionVars false
noncomputable section
namespace Go.Proofs.Ytaloolcabmfjbaa
open Go.Sym
set_option maxRecDepth 100000
set_option maxHeartbeats 4000000
def op2C (s : ByteArray) (b : Bool) (n : Int) (i : Nat) : CD := ⟨53, [(0, .ptr 0 0), (3, .rs 1 0 (gN op2V op2R opB s b i).length (gN op2V op2R opB s b i).length false 9), (4, .int .i64 n), (5, .int .i64 (i : Int))], [], [(0, .cells [.str (gS op2R opB s b i), .bool (gB op2R opB s b i)] 0 false), (1, .rows opT (gN op2V op2R opB s b i) 0 false)], 2⟩
theorem op2_hR (s : ByteArray) (b : Bool) : (op2R s b).size ≤ s.size := opR_size s
theorem op2_hL (s : ByteArray) (b : Bool) (h : opB s b = false) : (op2R s b).size + 1 ≤ s.size := opR_less h
theorem get_op (s : ByteArray) (bad : Bool) (t : TypeId) (hs : s.size ≤ 1000000) : HeapAt Try.prog 1 68 [.ptr 0 0] (rdO s bad t) (.lst opT (gL op2V op2R opB s bad) false) (rdR (gE op2R opB s bad) (gF op2R opB s bad)) 1 := by
 have h1 := numV_in s
 obtain ⟨m, em⟩ : ∃ m : Nat, gM op2R opB s bad = m := ⟨_, rfl⟩
 obtain ⟨n, en⟩ : ∃ n : Int, min (numV s) 2147483648 = n := ⟨_, rfl⟩
 have hm := gM_le op2R opB s bad
 have hmz := gM_size op2R opB op2_hR op2_hL s bad
 have hend := gM_end op2R opB s bad
 rw [em] at hm hmz hend
 rw [en] at hm hend
 have hlt := fun i (h : i < m) => gM_lt op2R opB (s := s) (b := bad) (i := i) (by rw [em]; exact h)
 have eL := gL_eq op2V op2R opB s bad
 have eE := gE_eq op2R opB s bad
 have eF := gF_eq op2R opB s bad
 rw [em] at eL eE eF
 refine heap_of_H htTr_ok noTab_ok (fuel := 4) (d := 6) (N := 1) rfl rfl [⟨4, [], op2C s bad n 0, .leaf (.exit 0) (op2C s bad n m)⟩] ?_ ?_
 ·intro N y hy
  rw [List.mem_singleton.1 hy]
  refine LpD.ok_one (b := bodyAt Try.prog 68 4) rfl (loop_H htTr_ok noTab_ok (fuel := 4) (d := 6) (X := { i : Nat // i ≤ m }) (fun x => op2C s bad n x.1) (fun x => m - x.1)
    (fun _ => .leaf (.exit 0) (op2C s bad n m)) (fun _ => []) (fun _ _ h => by cases h) ?_ ⟨0, Nat.zero_le _⟩)
  rintro ⟨i, hi⟩
  dsimp only
  have hz := gS_size op2R opB op2_hR s bad i
  have hl := gN_len op2V op2R opB s bad i
  rcases Nat.lt_or_ge i m with hlt2 | hge
  ·have hb := hlt i hlt2
   have e1 := (gS_succ op2R opB s bad i).trans (opR_eq _)
   have e3 := (gB_succ op2R opB s bad i).trans (opB_eq _ _)
   have e2 := gN_succ op2V op2R opB s bad i
   have hl2 := gN_len op2V op2R opB s bad (i + 1)
   unfold op2V at e2
   rw [opV_eq] at e2
   have zz0 := numR_size (gS op2R opB s bad i)
   have zz1 := numV_in (gS op2R opB s bad i)
   have zz2 := txR_size (numR (gS op2R opB s bad i))
   have zz3 := txR_size (txR (numR (gS op2R opB s bad i)))
   have zz4 := txR_size (txR (txR (numR (gS op2R opB s bad i))))
   have zz5 := numR_size (txR (txR (txR (numR (gS op2R opB s bad i)))))
   have zz6 := numV_in (txR (txR (txR (numR (gS op2R opB s bad i)))))
   have zz7 := numR_size (numR (txR (txR (txR (numR (gS op2R opB s bad i))))))
   have zz8 := numV_in (numR (txR (txR (txR (numR (gS op2R opB s bad i))))))
   have zz9 := numR_size (numR (numR (txR (txR (txR (numR (gS op2R opB s bad i)))))))
   have zz10 := numV_in (numR (numR (txR (txR (txR (numR (gS op2R opB s bad i)))))))
   have zz11 := numR_size (numR (numR (numR (txR (txR (txR (numR (gS op2R opB s bad i))))))))
   have zz12 := numV_in (numR (numR (numR (txR (txR (txR (numR (gS op2R opB s bad i))))))))
   have zz13 := numR_size (numR (numR (numR (numR (txR (txR (txR (numR (gS op2R opB s bad i)))))))))
   have zz14 := numV_in (numR (numR (numR (numR (txR (txR (txR (numR (gS op2R opB s bad i)))))))))
   repeat' ((conv => whnf); first | (with_reducible first | (refine W1.o ?_; constructor) | rfl | exact castL_self _ _) | ((with_reducible refine V.same_t ?_); exact rfl) | ((with_reducible refine andB_room ?_ ?_ ?_); (· kernel_rfl); (· (first | omega | (simp only [lens] <;> omega)))) | ((with_reducible refine W2.o ?_; constructor); · (first | with_reducible assumption | omega | (simp only [lens] <;> omega))) | ((with_reducible refine W3.o ?_; constructor); · (first | with_reducible assumption | omega | (simp only [lens] <;> omega))) | ((with_reducible refine W4.o ?_; constructor); · (first | (with_reducible first | assumption | exact decide_eq_true rfl | exact sEq_self _) | ((with_reducible refine eqOK_i ?_); kernel_rfl) | (first | (first | exact hb | (rw [hb]; exact rfl))))) | ((with_reducible refine iteB_f ?_ ?_); · (first | (with_reducible first | assumption | exact decide_eq_true rfl | exact sEq_self _) | ((with_reducible refine eqOK_i ?_); kernel_rfl) | (first | (first | exact hb | (rw [hb]; exact rfl))))) | (refine ⟨⟨i + 1, hlt2⟩, ?_, rfl, ?_⟩) | (with_reducible refine CD.wk_au ?_) | (with_reducible refine W5.o ?_; constructor) | ((with_reducible refine W6.o ?_; constructor) <;> intro hB))
   all_goals ((conv => whnf); (try dsimp only); (try simp only [Nat.succ_eq_add_one, Nat.le_eq, castL_self]); (try omega))
   all_goals (try (first | omega | (simp only [lens] <;> omega)))
   all_goals first
    | exact rfl
    | omega
    | exact e1.symm
    | exact e3.symm
    | (rw [e3]; done)
    | (rw [e2]; done)
    | (rw [hl2, hl]; exact rfl)
    | (rw [hl2, hl]; exact Nat.le_refl _)
    | (simp (disch := (simp only [hl, lens] <;> omega)) only [seg_all, castL_self]; exact e2.symm)
  ·have he : i = m := Nat.le_antisymm hi hge
   subst he
   rcases hend with hend | hend
   ·repeat' ((conv => whnf); first | (with_reducible first | (refine W1.o ?_; constructor) | rfl | exact castL_self _ _) | ((with_reducible refine V.same_t ?_); exact rfl) | ((with_reducible refine andB_room ?_ ?_ ?_); (· kernel_rfl); (· (first | omega | (simp only [lens] <;> omega)))) | ((with_reducible refine W2.o ?_; constructor); · (first | with_reducible assumption | omega | (simp only [lens] <;> omega))) | ((with_reducible refine W3.o ?_; constructor); · (first | with_reducible assumption | omega | (simp only [lens] <;> omega))) | ((with_reducible refine W4.o ?_; constructor); · (first | (with_reducible first | assumption | exact decide_eq_true rfl | exact sEq_self _) | ((with_reducible refine eqOK_i ?_); kernel_rfl))) | ((with_reducible refine iteB_f ?_ ?_); · (first | (with_reducible first | assumption | exact decide_eq_true rfl | exact sEq_self _) | ((with_reducible refine eqOK_i ?_); kernel_rfl))) | (with_reducible refine CD.wk_au ?_) | (with_reducible refine W5.o ?_; constructor) | ((with_reducible refine W6.o ?_; constructor) <;> intro hB))
    all_goals ((conv => whnf); (try dsimp only); (try simp only [Nat.succ_eq_add_one, Nat.le_eq, castL_self]); (try omega))
    all_goals (try (first | omega | (simp only [lens] <;> omega)))
    all_goals first
     | exact rfl
   ·repeat' ((conv => whnf); first | (with_reducible first | (refine W1.o ?_; constructor) | rfl | exact castL_self _ _) | ((with_reducible refine V.same_t ?_); exact rfl) | ((with_reducible refine andB_room ?_ ?_ ?_); (· kernel_rfl); (· (first | omega | (simp only [lens] <;> omega)))) | ((with_reducible refine W2.o ?_; constructor); · (first | with_reducible assumption | omega | (simp only [lens] <;> omega))) | ((with_reducible refine W3.o ?_; constructor); · (first | with_reducible assumption | omega | (simp only [lens] <;> omega))) | ((with_reducible refine W4.o ?_; constructor); · (first | (with_reducible first | assumption | exact decide_eq_true rfl | exact sEq_self _) | ((with_reducible refine eqOK_i ?_); kernel_rfl) | (first | (first | exact hend | (rw [hend]; exact rfl))))) | ((with_reducible refine iteB_f ?_ ?_); · (first | (with_reducible first | assumption | exact decide_eq_true rfl | exact sEq_self _) | ((with_reducible refine eqOK_i ?_); kernel_rfl) | (first | (first | exact hend | (rw [hend]; exact rfl))))) | (with_reducible refine CD.wk_au ?_) | (with_reducible refine W5.o ?_; constructor) | ((with_reducible refine W6.o ?_; constructor) <;> intro hB))
    all_goals ((conv => whnf); (try dsimp only); (try simp only [Nat.succ_eq_add_one, Nat.le_eq, castL_self]); (try omega))
    all_goals (try (first | omega | (simp only [lens] <;> omega)))
    all_goals first
     | exact rfl
 ·have q0 := gS_0 op2R opB s bad
  have q1 := gN_0 op2V op2R opB s bad
  have q2 := gB_0 op2R opB s bad
  repeat' ((conv => whnf); first | (with_reducible first | (refine W1.o ?_; constructor) | rfl | exact castL_self _ _) | ((with_reducible refine V.same_t ?_); exact rfl) | ((with_reducible refine andB_room ?_ ?_ ?_); (· kernel_rfl); (· (first | omega | (simp only [lens] <;> omega)))) | ((with_reducible refine W2.o ?_; constructor); · (first | with_reducible assumption | omega | (simp only [lens] <;> omega))) | ((with_reducible refine W3.o ?_; constructor); · (first | with_reducible assumption | omega | (simp only [lens] <;> omega))) | ((with_reducible refine W4.o ?_; constructor); · (first | (with_reducible first | assumption | exact decide_eq_true rfl | exact sEq_self _) | ((with_reducible refine eqOK_i ?_); kernel_rfl))) | ((with_reducible refine iteB_f ?_ ?_); · (first | (with_reducible first | assumption | exact decide_eq_true rfl | exact sEq_self _) | ((with_reducible refine eqOK_i ?_); kernel_rfl))) | (with_reducible refine CD.wk_au ?_) | (with_reducible refine W5.o ?_; constructor) | ((with_reducible refine W6.o ?_; constructor) <;> intro hB))
  all_goals ((conv => whnf); (try dsimp only); (try simp only [Nat.succ_eq_add_one, Nat.le_eq, castL_self]); (try omega))
  all_goals (try (first | omega | (simp only [lens] <;> omega)))
  all_goals first
   | exact rfl
   | omega
   | exact en
   | exact q0.symm
   | exact q1.symm
   | exact q2.symm
   | exact eE.symm
   | exact eF.symm
   | (rw [q1]; exact rfl)
   | (rw [seg_all _ rfl]; exact eL.symm)
def kv2C (s : ByteArray) (b : Bool) (n : Int) (i : Nat) : CD := ⟨38, [(0, .ptr 0 0), (3, .rs 1 0 (gN kv2V kv2R kvB s b i).length (gN kv2V kv2R kvB s b i).length false 5), (4, .int .i64 n), (5, .int .i64 (i : Int))], [], [(0, .cells [.str (gS kv2R kvB s b i), .bool (gB kv2R kvB s b i)] 0 false), (1, .rows kvT (gN kv2V kv2R kvB s b i) 0 false)], 2⟩
theorem kv2_hR (s : ByteArray) (b : Bool) : (kv2R s b).size ≤ s.size := kvR_size s
theorem kv2_hL (s : ByteArray) (b : Bool) (h : kvB s b = false) : (kv2R s b).size + 1 ≤ s.size := kvR_less h
theorem get_kv (s : ByteArray) (bad : Bool) (t : TypeId) (hs : s.size ≤ 1000000) : HeapAt Try.prog 1 73 [.ptr 0 0] (rdO s bad t) (.lst kvT (gL kv2V kv2R kvB s bad) false) (rdR (gE kv2R kvB s bad) (gF kv2R kvB s bad)) 1 := by
 have h1 := numV_in s
 obtain ⟨m, em⟩ : ∃ m : Nat, gM kv2R kvB s bad = m := ⟨_, rfl⟩
 obtain ⟨n, en⟩ : ∃ n : Int, min (numV s) 2147483648 = n := ⟨_, rfl⟩
 have hm := gM_le kv2R kvB s bad
 have hmz := gM_size kv2R kvB kv2_hR kv2_hL s bad
 have hend := gM_end kv2R kvB s bad
 rw [em] at hm hmz hend
 rw [en] at hm hend
 have hlt := fun i (h : i < m) => gM_lt kv2R kvB (s := s) (b := bad) (i := i) (by rw [em]; exact h)
 have eL := gL_eq kv2V kv2R kvB s bad
 have eE := gE_eq kv2R kvB s bad
 have eF := gF_eq kv2R kvB s bad
 rw [em] at eL eE eF
 refine heap_of_H htTr_ok noTab_ok (fuel := 4) (d := 6) (N := 1) rfl rfl [⟨4, [], kv2C s bad n 0, .leaf (.exit 0) (kv2C s bad n m)⟩] ?_ ?_
 ·intro N y hy
  rw [List.mem_singleton.1 hy]
  refine LpD.ok_one (b := bodyAt Try.prog 73 4) rfl (loop_H htTr_ok noTab_ok (fuel := 4) (d := 6) (X := { i : Nat // i ≤ m }) (fun x => kv2C s bad n x.1) (fun x => m - x.1)
    (fun _ => .leaf (.exit 0) (kv2C s bad n m)) (fun _ => []) (fun _ _ h => by cases h) ?_ ⟨0, Nat.zero_le _⟩)
  rintro ⟨i, hi⟩
  dsimp only
  have hz := gS_size kv2R kvB kv2_hR s bad i
  have hl := gN_len kv2V kv2R kvB s bad i
  rcases Nat.lt_or_ge i m with hlt2 | hge
  ·have hb := hlt i hlt2
   have e1 := (gS_succ kv2R kvB s bad i).trans (kvR_eq _)
   have e3 := (gB_succ kv2R kvB s bad i).trans (kvB_eq _ _)
   have e2 := gN_succ kv2V kv2R kvB s bad i
   have hl2 := gN_len kv2V kv2R kvB s bad (i + 1)
   unfold kv2V at e2
   rw [kvV_eq] at e2
   have zz0 := txR_size (gS kv2R kvB s bad i)
   have zz1 := txR_size (txR (gS kv2R kvB s bad i))
   have zz2 := numR_size (txR (txR (gS kv2R kvB s bad i)))
   have zz3 := numV_in (txR (txR (gS kv2R kvB s bad i)))
   have zz4 := numR_size (numR (txR (txR (gS kv2R kvB s bad i))))
   have zz5 := numV_in (numR (txR (txR (gS kv2R kvB s bad i))))
   have zz6 := numR_size (numR (numR (txR (txR (gS kv2R kvB s bad i)))))
   have zz7 := numV_in (numR (numR (txR (txR (gS kv2R kvB s bad i)))))
   repeat' ((conv => whnf); first | (with_reducible first | (refine W1.o ?_; constructor) | rfl | exact castL_self _ _) | ((with_reducible refine V.same_t ?_); exact rfl) | ((with_reducible refine andB_room ?_ ?_ ?_); (· kernel_rfl); (· (first | omega | (simp only [lens] <;> omega)))) | ((with_reducible refine W2.o ?_; constructor); · (first | with_reducible assumption | omega | (simp only [lens] <;> omega))) | ((with_reducible refine W3.o ?_; constructor); · (first | with_reducible assumption | omega | (simp only [lens] <;> omega))) | ((with_reducible refine W4.o ?_; constructor); · (first | (with_reducible first | assumption | exact decide_eq_true rfl | exact sEq_self _) | ((with_reducible refine eqOK_i ?_); kernel_rfl) | (first | (first | exact hb | (rw [hb]; exact rfl))))) | ((with_reducible refine iteB_f ?_ ?_); · (first | (with_reducible first | assumption | exact decide_eq_true rfl | exact sEq_self _) | ((with_reducible refine eqOK_i ?_); kernel_rfl) | (first | (first | exact hb | (rw [hb]; exact rfl))))) | (refine ⟨⟨i + 1, hlt2⟩, ?_, rfl, ?_⟩) | (with_reducible refine CD.wk_au ?_) | (with_reducible refine W5.o ?_; constructor) | ((with_reducible refine W6.o ?_; constructor) <;> intro hB))
   all_goals ((conv => whnf); (try dsimp only); (try simp only [Nat.succ_eq_add_one, Nat.le_eq, castL_self]); (try omega))
   all_goals (try (first | omega | (simp only [lens] <;> omega)))
   all_goals first
    | exact rfl
    | omega
    | exact e1.symm
    | exact e3.symm
    | (rw [e3]; done)
    | (rw [e2]; done)
    | (rw [hl2, hl]; exact rfl)
    | (rw [hl2, hl]; exact Nat.le_refl _)
    | (simp (disch := (simp only [hl, lens] <;> omega)) only [seg_all, castL_self]; exact e2.symm)
  ·have he : i = m := Nat.le_antisymm hi hge
   subst he
   rcases hend with hend | hend
   ·repeat' ((conv => whnf); first | (with_reducible first | (refine W1.o ?_; constructor) | rfl | exact castL_self _ _) | ((with_reducible refine V.same_t ?_); exact rfl) | ((with_reducible refine andB_room ?_ ?_ ?_); (· kernel_rfl); (· (first | omega | (simp only [lens] <;> omega)))) | ((with_reducible refine W2.o ?_; constructor); · (first | with_reducible assumption | omega | (simp only [lens] <;> omega))) | ((with_reducible refine W3.o ?_; constructor); · (first | with_reducible assumption | omega | (simp only [lens] <;> omega))) | ((with_reducible refine W4.o ?_; constructor); · (first | (with_reducible first | assumption | exact decide_eq_true rfl | exact sEq_self _) | ((with_reducible refine eqOK_i ?_); kernel_rfl))) | ((with_reducible refine iteB_f ?_ ?_); · (first | (with_reducible first | assumption | exact decide_eq_true rfl | exact sEq_self _) | ((with_reducible refine eqOK_i ?_); kernel_rfl))) | (with_reducible refine CD.wk_au ?_) | (with_reducible refine W5.o ?_; constructor) | ((with_reducible refine W6.o ?_; constructor) <;> intro hB))
    all_goals ((conv => whnf); (try dsimp only); (try simp only [Nat.succ_eq_add_one, Nat.le_eq, castL_self]); (try omega))
    all_goals (try (first | omega | (simp only [lens] <;> omega)))
    all_goals first
     | exact rfl
   ·repeat' ((conv => whnf); first | (with_reducible first | (refine W1.o ?_; constructor) | rfl | exact castL_self _ _) | ((with_reducible refine V.same_t ?_); exact rfl) | ((with_reducible refine andB_room ?_ ?_ ?_); (· kernel_rfl); (· (first | omega | (simp only [lens] <;> omega)))) | ((with_reducible refine W2.o ?_; constructor); · (first | with_reducible assumption | omega | (simp only [lens] <;> omega))) | ((with_reducible refine W3.o ?_; constructor); · (first | with_reducible assumption | omega | (simp only [lens] <;> omega))) | ((with_reducible refine W4.o ?_; constructor); · (first | (with_reducible first | assumption | exact decide_eq_true rfl | exact sEq_self _) | ((with_reducible refine eqOK_i ?_); kernel_rfl) | (first | (first | exact hend | (rw [hend]; exact rfl))))) | ((with_reducible refine iteB_f ?_ ?_); · (first | (with_reducible first | assumption | exact decide_eq_true rfl | exact sEq_self _) | ((with_reducible refine eqOK_i ?_); kernel_rfl) | (first | (first | exact hend | (rw [hend]; exact rfl))))) | (with_reducible refine CD.wk_au ?_) | (with_reducible refine W5.o ?_; constructor) | ((with_reducible refine W6.o ?_; constructor) <;> intro hB))
    all_goals ((conv => whnf); (try dsimp only); (try simp only [Nat.succ_eq_add_one, Nat.le_eq, castL_self]); (try omega))
    all_goals (try (first | omega | (simp only [lens] <;> omega)))
    all_goals first
     | exact rfl
 ·have q0 := gS_0 kv2R kvB s bad
  have q1 := gN_0 kv2V kv2R kvB s bad
  have q2 := gB_0 kv2R kvB s bad
  repeat' ((conv => whnf); first | (with_reducible first | (refine W1.o ?_; constructor) | rfl | exact castL_self _ _) | ((with_reducible refine V.same_t ?_); exact rfl) | ((with_reducible refine andB_room ?_ ?_ ?_); (· kernel_rfl); (· (first | omega | (simp only [lens] <;> omega)))) | ((with_reducible refine W2.o ?_; constructor); · (first | with_reducible assumption | omega | (simp only [lens] <;> omega))) | ((with_reducible refine W3.o ?_; constructor); · (first | with_reducible assumption | omega | (simp only [lens] <;> omega))) | ((with_reducible refine W4.o ?_; constructor); · (first | (with_reducible first | assumption | exact decide_eq_true rfl | exact sEq_self _) | ((with_reducible refine eqOK_i ?_); kernel_rfl))) | ((with_reducible refine iteB_f ?_ ?_); · (first | (with_reducible first | assumption | exact decide_eq_true rfl | exact sEq_self _) | ((with_reducible refine eqOK_i ?_); kernel_rfl))) | (with_reducible refine CD.wk_au ?_) | (with_reducible refine W5.o ?_; constructor) | ((with_reducible refine W6.o ?_; constructor) <;> intro hB))
  all_goals ((conv => whnf); (try dsimp only); (try simp only [Nat.succ_eq_add_one, Nat.le_eq, castL_self]); (try omega))
  all_goals (try (first | omega | (simp only [lens] <;> omega)))
  all_goals first
   | exact rfl
   | omega
   | exact en
   | exact q0.symm
   | exact q1.symm
   | exact q2.symm
   | exact eE.symm
   | exact eF.symm
   | (rw [q1]; exact rfl)
   | (rw [seg_all _ rfl]; exact eL.symm)
def gtF {e : List Ty} (V2 : ByteArray → Bool → rowDen e) (R2 : ByteArray → Bool → ByteArray) (B2 : ByteArray → Bool → Bool) (args : List V) (os : List EObj) : Option HRes := match args, os with
 | [.ptr b o], [.cells [.str s, .bool bad] t i] => some ([Nat.beq b 0, Nat.beq o 0, !i, decide (s.size ≤ 1000000)], .lst e (gL V2 R2 B2 s bad) false, rdR (gE R2 B2 s bad) (gF R2 B2 s bad), 1)
 | _, _ => none
theorem gtF_is {P : Program} {g : FuncId} {e : List Ty} {V2 : ByteArray → Bool → rowDen e} {R2 : ByteArray → Bool → ByteArray} {B2 : ByteArray → Bool → Bool} (hg : ∀ s bad t, s.size ≤ 1000000 → HeapAt P 1 g [.ptr 0 0] (rdO s bad t) (.lst e (gL V2 R2 B2 s bad) false) (rdR (gE R2 B2 s bad) (gF R2 B2 s bad)) 1) (args : List V) (os : List EObj) (c : List Bool) (v : V) (h' : List (Nat × EObj)) (n' : Nat) (h : gtF V2 R2 B2 args os = some (c, v, h', n')) (hc : allB c) : HeapAt P 1 g args os v h' n' := by
 unfold gtF at h
 split at h
 ·cases h
  obtain ⟨c1, c2, c3, c4, _⟩ := hc
  rw [Bool.not_eq_true'] at c3
  subst c3
  rw [Nat.eq_of_beq_eq_true c1, Nat.eq_of_beq_eq_true c2]
  exact hg _ _ _ (of_decide_eq_true c4)
 ·cases h
def htG : HTab := oneHT 68 1 false (gtF op2V op2R opB) (oneHT 73 1 false (gtF kv2V kv2R kvB) htTr)
theorem htG_ok : HTabOK Try.prog htG := oneHT_ok (gtF_is fun s bad t h => get_op s bad t h) (oneHT_ok (gtF_is fun s bad t h => get_kv s bad t h) htTr_ok)
end Go.Proofs.Ytaloolcabmfjbaa
end
