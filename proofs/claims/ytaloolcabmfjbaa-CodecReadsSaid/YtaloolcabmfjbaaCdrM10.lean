/-
  Texts of this claim, one behind the other: CdSv. Each says its own conditions.
-/
import Derived.Test.YtaloolcabmfjbaaCdrM8
import Derived.Test.YtaloolcabmfjbaaCdrM9

set_option linter.unusedVariables false
set_option linter.unusedSimpArgs false
set_option linter.unusedSectionVars false
noncomputable section
namespace Go.Proofs.Ytaloolcabmfjbaa
open Go.Sym
set_option maxRecDepth 100000
set_option maxHeartbeats 4000000
def cmC (s : ByteArray) (b : Bool) (n : Int) (i : Nat) : CD := ⟨21, [(1, .fn 59 [.agg [.ptr 0 0]] []), (2, .ptr 1 0), (5, .rs 2 0 (cmN s i).length (cmN s i).length false 5), (7, .int .i64 n), (8, .int .i64 (i : Int))], [], [(0, .cells [.str (cmI s i), .bool b] 0 false), (1, .cells [.ptr 0 0] 0 false), (2, .rows cmT (cmN s i) 0 false)], 3⟩
def cmX : CD := ⟨21, [], [], [(0, .cells [.any, .any] 0 false)], 1⟩
theorem cms_ret (s : ByteArray) (bad : Bool) (t : TypeId) (hs : s.size ≤ 1000000) (h : cmS s bad = true) : HeapAt Try.prog 1 58 [.agg [.ptr 0 0], .fn 59 [.agg [.ptr 0 0]] []] (rdO s bad t) (.lst cmT (cmL s) false) (rdR (cmE s) (bad || numB s)) 1 := by
 have h0 := h
 rw [cmS_eq, Bool.and_eq_true, List.all_eq_true, leI_eq, decide_eq_true_eq] at h
 obtain ⟨hn, ha⟩ := h
 have h1 := numV_in s
 obtain ⟨n, en⟩ : ∃ n : Nat, numV s = (n : Int) := ⟨(numV s).toNat, by omega⟩
 have en2 : (numV s).toNat = n := by omega
 have ha : ∀ j, j < n → cmD s (bad || numB s) j = true := fun j hj => ha j (by rw [List.mem_range]; omega)
 have eL := cmL_eq s
 have eE := cmE_eq s
 rw [en2] at eL eE
 refine heap_of_H htI_ok noTab_ok (fuel := 4) (d := 6) (N := 1) rfl rfl [⟨3, [(1, 1)], cmC s (bad || numB s) n 0, .leaf (.exit 0) (cmC s (bad || numB s) n n)⟩] ?_ ?_
 ·intro N y hy
  rw [List.mem_singleton.1 hy]
  refine LpD.ok_one (b := bodyAt Try.prog 58 3) rfl (loop_H htI_ok noTab_ok (fuel := 4) (d := 6) (X := { i : Nat // i ≤ n }) (fun x => cmC s (bad || numB s) n x.1) (fun x => n - x.1)
    (fun _ => .leaf (.exit 0) (cmC s (bad || numB s) n n)) (fun _ => []) (fun _ _ h => by cases h) ?_ ⟨0, Nat.zero_le _⟩)
  rintro ⟨i, hi⟩
  dsimp only
  have hz := cmI_size s (bad || numB s) i fun j hj => ha j (by omega)
  have hl := cmN_len s i
  rcases Nat.lt_or_ge i n with hlt | hge
  case' inl =>
   have hd := ha i hlt
   unfold cmD at hd
   rw [Bool.and_eq_true, Bool.not_eq_true'] at hd
   obtain ⟨d1, d2⟩ := hd
   have d3 := cmB_bad d2
   have e1 := cmI_succ s i
   have e2 := cmN_succ s i
  case' inr =>
   have he : i = n := Nat.le_antisymm hi hge
   subst he
  all_goals
   repeat' ((conv => whnf); first | (with_reducible first | (refine W1.o ?_; constructor) | rfl | exact castL_self _ _) | ((with_reducible refine V.same_t ?_); exact rfl) | ((with_reducible refine andB_room ?_ ?_ ?_); (· kernel_rfl); (· (first | omega | (simp only [lens] <;> omega)))) | ((with_reducible refine W2.o ?_; constructor); · (first | with_reducible assumption | omega | (simp only [lens] <;> omega))) | ((with_reducible refine W3.o ?_; constructor); · (first | with_reducible assumption | omega | (simp only [lens] <;> omega))) | ((with_reducible refine W4.o ?_; constructor); · (first | (with_reducible first | assumption | exact decide_eq_true rfl | exact sEq_self _) | ((with_reducible refine eqOK_i ?_); kernel_rfl) | exact d1 | exact d2)) | ((with_reducible refine iteB_f ?_ ?_); · (first | (with_reducible first | assumption | exact decide_eq_true rfl | exact sEq_self _) | ((with_reducible refine eqOK_i ?_); kernel_rfl) | exact d1 | exact d2)) | (refine ⟨⟨i + 1, hlt⟩, ?_, rfl, ?_⟩) | (with_reducible refine CD.wk_au ?_) | (with_reducible refine W5.o ?_; constructor) | ((with_reducible refine W6.o ?_; constructor) <;> intro hB))
   all_goals ((conv => whnf); (try dsimp only); (try simp only [Nat.succ_eq_add_one, Nat.le_eq, castL_self]); (try omega))
   all_goals (try (first | omega | (simp only [lens] <;> omega)))
   all_goals first
    | exact rfl
    | omega
    | exact e1.symm
    | (rw [d2, d3]; done)
    | (simp only [e2, hl, lens] <;> omega)
    | (simp (disch := (simp only [hl, lens] <;> omega)) only [seg_all, castL_self]; exact e2.symm)
 ·have q0 := cmI_0 s
  have q1 := cmN_0 s
  repeat' ((conv => whnf); first | (with_reducible first | (refine W1.o ?_; constructor) | rfl | exact castL_self _ _) | ((with_reducible refine V.same_t ?_); exact rfl) | ((with_reducible refine andB_room ?_ ?_ ?_); (· kernel_rfl); (· (first | omega | (simp only [lens] <;> omega)))) | ((with_reducible refine W2.o ?_; constructor); · (first | with_reducible assumption | omega | (simp only [lens] <;> omega))) | ((with_reducible refine W3.o ?_; constructor); · (first | with_reducible assumption | omega | (simp only [lens] <;> omega))) | ((with_reducible refine W4.o ?_; constructor); · (first | (with_reducible first | assumption | exact decide_eq_true rfl | exact sEq_self _) | ((with_reducible refine eqOK_i ?_); kernel_rfl))) | ((with_reducible refine iteB_f ?_ ?_); · (first | (with_reducible first | assumption | exact decide_eq_true rfl | exact sEq_self _) | ((with_reducible refine eqOK_i ?_); kernel_rfl))) | (with_reducible refine CD.wk_au ?_) | (with_reducible refine W5.o ?_; constructor) | ((with_reducible refine W6.o ?_; constructor) <;> intro hB))
  all_goals ((conv => whnf); (try dsimp only); (try simp only [Nat.succ_eq_add_one, Nat.le_eq, castL_self]); (try omega))
  all_goals (try (first | omega | (simp only [lens] <;> omega)))
  all_goals first
   | exact rfl
   | omega
   | exact en
   | exact q0.symm
   | exact q1.symm
   | exact eE.symm
   | (rw [q1]; exact rfl)
   | (rw [seg_all _ rfl]; exact eL.symm)
theorem cms_big (s : ByteArray) (bad : Bool) (t : TypeId) (hs : s.size ≤ 1000000) (h : ¬ numV s ≤ 1073741824) : HeapX Try.prog 1 58 [.agg [.ptr 0 0], .fn 59 [.agg [.ptr 0 0]] []] (rdO s bad t) (.pan wrongV) anyR 1 := by
 refine heapP_of_H htI_ok noTab_ok (fuel := 4) (d := 6) (N := 1) rfl rfl [] (fun _ _ h => by cases h) ?_
 repeat' ((conv => whnf); first | (with_reducible first | (refine W1.o ?_; constructor) | rfl | exact castL_self _ _) | ((with_reducible refine V.same_t ?_); exact rfl) | ((with_reducible refine andB_room ?_ ?_ ?_); (· kernel_rfl); (· (first | omega | (simp only [lens] <;> omega)))) | ((with_reducible refine W2.o ?_; constructor); · (first | with_reducible assumption | omega | (simp only [lens] <;> omega))) | ((with_reducible refine W3.o ?_; constructor); · (first | with_reducible assumption | omega | (simp only [lens] <;> omega))) | ((with_reducible refine W4.o ?_; constructor); · (first | (with_reducible first | assumption | exact decide_eq_true rfl | exact sEq_self _) | ((with_reducible refine eqOK_i ?_); kernel_rfl))) | ((with_reducible refine iteB_f ?_ ?_); · (first | (with_reducible first | assumption | exact decide_eq_true rfl | exact sEq_self _) | ((with_reducible refine eqOK_i ?_); kernel_rfl))) | (with_reducible refine CD.wk_au ?_) | (with_reducible refine W5.o ?_; constructor) | ((with_reducible refine W6.o ?_; constructor) <;> intro hB))
 all_goals ((conv => whnf); (try dsimp only); (try simp only [Nat.succ_eq_add_one, Nat.le_eq, castL_self]); (try omega))
 all_goals (try (first | omega | (simp only [lens] <;> omega)))
 all_goals first
  | exact rfl
theorem cms_bad (s : ByteArray) (bad : Bool) (t : TypeId) (hs : s.size ≤ 1000000) (hn : numV s ≤ 1073741824) (m : Nat) (hm : (m : Int) < numV s) (ha : ∀ j, j < m → cmD s (bad || numB s) j = true) (hb : cmD s (bad || numB s) m = false) : HeapX Try.prog 1 58 [.agg [.ptr 0 0], .fn 59 [.agg [.ptr 0 0]] []] (rdO s bad t) (.pan wrongV) anyR 1 := by
 have h1 := numV_in s
 obtain ⟨n, en⟩ : ∃ n : Nat, numV s = (n : Int) := ⟨(numV s).toNat, by omega⟩
 refine heapP_of_H htI_ok noTab_ok (fuel := 4) (d := 6) (N := 1) rfl rfl [⟨3, [(1, 1)], cmC s (bad || numB s) n 0, .leaf (.pan wrongV) cmX⟩] ?_ ?_
 ·intro N y hy
  rw [List.mem_singleton.1 hy]
  refine LpD.ok_one (b := bodyAt Try.prog 58 3) rfl (loop_H htI_ok noTab_ok (fuel := 4) (d := 6) (X := { i : Nat // i ≤ m }) (fun x => cmC s (bad || numB s) n x.1) (fun x => m - x.1)
    (fun _ => .leaf (.pan wrongV) cmX) (fun _ => []) (fun _ _ h => by cases h) ?_ ⟨0, Nat.zero_le _⟩)
  rintro ⟨i, hi⟩
  dsimp only
  have hz := cmI_size s (bad || numB s) i fun j hj => ha j (by omega)
  have hl := cmN_len s i
  rcases Nat.lt_or_ge i m with hlt | hge
  ·have hd := ha i hlt
   unfold cmD at hd
   rw [Bool.and_eq_true, Bool.not_eq_true'] at hd
   obtain ⟨d1, d2⟩ := hd
   have d3 := cmB_bad d2
   have e1 := cmI_succ s i
   have e2 := cmN_succ s i
   repeat' ((conv => whnf); first | (with_reducible first | (refine W1.o ?_; constructor) | rfl | exact castL_self _ _) | ((with_reducible refine V.same_t ?_); exact rfl) | ((with_reducible refine andB_room ?_ ?_ ?_); (· kernel_rfl); (· (first | omega | (simp only [lens] <;> omega)))) | ((with_reducible refine W2.o ?_; constructor); · (first | with_reducible assumption | omega | (simp only [lens] <;> omega))) | ((with_reducible refine W3.o ?_; constructor); · (first | with_reducible assumption | omega | (simp only [lens] <;> omega))) | ((with_reducible refine W4.o ?_; constructor); · (first | (with_reducible first | assumption | exact decide_eq_true rfl | exact sEq_self _) | ((with_reducible refine eqOK_i ?_); kernel_rfl) | exact d1 | exact d2)) | ((with_reducible refine iteB_f ?_ ?_); · (first | (with_reducible first | assumption | exact decide_eq_true rfl | exact sEq_self _) | ((with_reducible refine eqOK_i ?_); kernel_rfl) | exact d1 | exact d2)) | (refine ⟨⟨i + 1, hlt⟩, ?_, rfl, ?_⟩) | (with_reducible refine CD.wk_au ?_) | (with_reducible refine W5.o ?_; constructor) | ((with_reducible refine W6.o ?_; constructor) <;> intro hB))
   all_goals ((conv => whnf); (try dsimp only); (try simp only [Nat.succ_eq_add_one, Nat.le_eq, castL_self]); (try omega))
   all_goals (try (first | omega | (simp only [lens] <;> omega)))
   all_goals first
    | exact rfl
    | omega
    | exact e1.symm
    | (rw [d2, d3]; done)
    | (simp only [e2, hl, lens] <;> omega)
    | (simp (disch := (simp only [hl, lens] <;> omega)) only [seg_all, castL_self]; exact e2.symm)
  ·have he : i = m := Nat.le_antisymm hi hge
   subst he
   unfold cmD at hb
   rw [Bool.and_eq_false_iff, Bool.not_eq_false'] at hb
   rcases hb with hb | hb
   ·repeat' ((conv => whnf); first | (with_reducible first | (refine W1.o ?_; constructor) | rfl | exact castL_self _ _) | ((with_reducible refine V.same_t ?_); exact rfl) | ((with_reducible refine andB_room ?_ ?_ ?_); (· kernel_rfl); (· (first | omega | (simp only [lens] <;> omega)))) | ((with_reducible refine W2.o ?_; constructor); · (first | with_reducible assumption | omega | (simp only [lens] <;> omega))) | ((with_reducible refine W3.o ?_; constructor); · (first | with_reducible assumption | omega | (simp only [lens] <;> omega))) | ((with_reducible refine W4.o ?_; constructor); · (first | (with_reducible first | assumption | exact decide_eq_true rfl | exact sEq_self _) | ((with_reducible refine eqOK_i ?_); kernel_rfl) | (first | (exact hb)))) | ((with_reducible refine iteB_f ?_ ?_); · (first | (with_reducible first | assumption | exact decide_eq_true rfl | exact sEq_self _) | ((with_reducible refine eqOK_i ?_); kernel_rfl) | (first | (exact hb)))) | (with_reducible refine CD.wk_au ?_) | (with_reducible refine W5.o ?_; constructor) | ((with_reducible refine W6.o ?_; constructor) <;> intro hB))
    all_goals ((conv => whnf); (try dsimp only); (try simp only [Nat.succ_eq_add_one, Nat.le_eq, castL_self]); (try omega))
    all_goals (try (first | omega | (simp only [lens] <;> omega)))
    all_goals first
     | exact rfl
   ·cases hk : cmK (cmI s i) with
    | true =>
     repeat' ((conv => whnf); first | (with_reducible first | (refine W1.o ?_; constructor) | rfl | exact castL_self _ _) | ((with_reducible refine V.same_t ?_); exact rfl) | ((with_reducible refine andB_room ?_ ?_ ?_); (· kernel_rfl); (· (first | omega | (simp only [lens] <;> omega)))) | ((with_reducible refine W2.o ?_; constructor); · (first | with_reducible assumption | omega | (simp only [lens] <;> omega))) | ((with_reducible refine W3.o ?_; constructor); · (first | with_reducible assumption | omega | (simp only [lens] <;> omega))) | ((with_reducible refine W4.o ?_; constructor); · (first | (with_reducible first | assumption | exact decide_eq_true rfl | exact sEq_self _) | ((with_reducible refine eqOK_i ?_); kernel_rfl) | exact hk | exact hb)) | ((with_reducible refine iteB_f ?_ ?_); · (first | (with_reducible first | assumption | exact decide_eq_true rfl | exact sEq_self _) | ((with_reducible refine eqOK_i ?_); kernel_rfl) | exact hk | exact hb)) | (with_reducible refine CD.wk_au ?_) | (with_reducible refine W5.o ?_; constructor) | ((with_reducible refine W6.o ?_; constructor) <;> intro hB))
     all_goals ((conv => whnf); (try dsimp only); (try simp only [Nat.succ_eq_add_one, Nat.le_eq, castL_self]); (try omega))
     all_goals (try (first | omega | (simp only [lens] <;> omega)))
     all_goals first
      | exact rfl
    | false =>
     repeat' ((conv => whnf); first | (with_reducible first | (refine W1.o ?_; constructor) | rfl | exact castL_self _ _) | ((with_reducible refine V.same_t ?_); exact rfl) | ((with_reducible refine andB_room ?_ ?_ ?_); (· kernel_rfl); (· (first | omega | (simp only [lens] <;> omega)))) | ((with_reducible refine W2.o ?_; constructor); · (first | with_reducible assumption | omega | (simp only [lens] <;> omega))) | ((with_reducible refine W3.o ?_; constructor); · (first | with_reducible assumption | omega | (simp only [lens] <;> omega))) | ((with_reducible refine W4.o ?_; constructor); · (first | (with_reducible first | assumption | exact decide_eq_true rfl | exact sEq_self _) | ((with_reducible refine eqOK_i ?_); kernel_rfl) | exact hk | exact hb)) | ((with_reducible refine iteB_f ?_ ?_); · (first | (with_reducible first | assumption | exact decide_eq_true rfl | exact sEq_self _) | ((with_reducible refine eqOK_i ?_); kernel_rfl) | exact hk | exact hb)) | (with_reducible refine CD.wk_au ?_) | (with_reducible refine W5.o ?_; constructor) | ((with_reducible refine W6.o ?_; constructor) <;> intro hB))
     all_goals ((conv => whnf); (try dsimp only); (try simp only [Nat.succ_eq_add_one, Nat.le_eq, castL_self]); (try omega))
     all_goals (try (first | omega | (simp only [lens] <;> omega)))
     all_goals first
      | exact rfl
 ·have q0 := cmI_0 s
  have q1 := cmN_0 s
  repeat' ((conv => whnf); first | (with_reducible first | (refine W1.o ?_; constructor) | rfl | exact castL_self _ _) | ((with_reducible refine V.same_t ?_); exact rfl) | ((with_reducible refine andB_room ?_ ?_ ?_); (· kernel_rfl); (· (first | omega | (simp only [lens] <;> omega)))) | ((with_reducible refine W2.o ?_; constructor); · (first | with_reducible assumption | omega | (simp only [lens] <;> omega))) | ((with_reducible refine W3.o ?_; constructor); · (first | with_reducible assumption | omega | (simp only [lens] <;> omega))) | ((with_reducible refine W4.o ?_; constructor); · (first | (with_reducible first | assumption | exact decide_eq_true rfl | exact sEq_self _) | ((with_reducible refine eqOK_i ?_); kernel_rfl))) | ((with_reducible refine iteB_f ?_ ?_); · (first | (with_reducible first | assumption | exact decide_eq_true rfl | exact sEq_self _) | ((with_reducible refine eqOK_i ?_); kernel_rfl))) | (with_reducible refine CD.wk_au ?_) | (with_reducible refine W5.o ?_; constructor) | ((with_reducible refine W6.o ?_; constructor) <;> intro hB))
  all_goals ((conv => whnf); (try dsimp only); (try simp only [Nat.succ_eq_add_one, Nat.le_eq, castL_self]); (try omega))
  all_goals (try (first | omega | (simp only [lens] <;> omega)))
  all_goals first
   | exact rfl
   | omega
   | exact en
   | exact q0.symm
   | exact q1.symm
   | (rw [q1]; exact rfl)
theorem cms_pan (s : ByteArray) (bad : Bool) (t : TypeId) (hs : s.size ≤ 1000000) (h : cmS s bad = false) : HeapX Try.prog 1 58 [.agg [.ptr 0 0], .fn 59 [.agg [.ptr 0 0]] []] (rdO s bad t) (.pan wrongV) anyR 1 := by
 by_cases hn : numV s ≤ 1073741824
 ·obtain ⟨m, h1, h2, h3⟩ := cmS_not s bad h hn
  exact cms_bad s bad t hs hn m h1 h2 h3
 ·exact cms_big s bad t hs hn
def opC (s : ByteArray) (b : Bool) (n : Int) (i : Nat) : CD := ⟨21, [(1, .fn 61 [.agg [.ptr 0 0]] []), (2, .ptr 1 0), (5, .rs 2 0 (opN s i).length (opN s i).length false 9), (7, .int .i64 n), (8, .int .i64 (i : Int))], [], [(0, .cells [.str (opI s i), .bool b] 0 false), (1, .cells [.ptr 0 0] 0 false), (2, .rows opT (opN s i) 0 false)], 3⟩
def opX : CD := ⟨21, [], [], [(0, .cells [.any, .any] 0 false)], 1⟩
theorem ops_ret (s : ByteArray) (bad : Bool) (t : TypeId) (hs : s.size ≤ 1000000) (h : opS s bad = true) : HeapAt Try.prog 1 60 [.agg [.ptr 0 0], .fn 61 [.agg [.ptr 0 0]] []] (rdO s bad t) (.lst opT (opL s) false) (rdR (opE s) (bad || numB s)) 1 := by
 have h0 := h
 rw [opS_eq, Bool.and_eq_true, List.all_eq_true, leI_eq, decide_eq_true_eq] at h
 obtain ⟨hn, ha⟩ := h
 have h1 := numV_in s
 obtain ⟨n, en⟩ : ∃ n : Nat, numV s = (n : Int) := ⟨(numV s).toNat, by omega⟩
 have en2 : (numV s).toNat = n := by omega
 have ha : ∀ j, j < n → opD s (bad || numB s) j = true := fun j hj => ha j (by rw [List.mem_range]; omega)
 have eL := opL_eq s
 have eE := opE_eq s
 rw [en2] at eL eE
 refine heap_of_H htI_ok noTab_ok (fuel := 4) (d := 6) (N := 1) rfl rfl [⟨3, [(1, 1)], opC s (bad || numB s) n 0, .leaf (.exit 0) (opC s (bad || numB s) n n)⟩] ?_ ?_
 ·intro N y hy
  rw [List.mem_singleton.1 hy]
  refine LpD.ok_one (b := bodyAt Try.prog 60 3) rfl (loop_H htI_ok noTab_ok (fuel := 4) (d := 6) (X := { i : Nat // i ≤ n }) (fun x => opC s (bad || numB s) n x.1) (fun x => n - x.1)
    (fun _ => .leaf (.exit 0) (opC s (bad || numB s) n n)) (fun _ => []) (fun _ _ h => by cases h) ?_ ⟨0, Nat.zero_le _⟩)
  rintro ⟨i, hi⟩
  dsimp only
  have hz := opI_size s (bad || numB s) i fun j hj => ha j (by omega)
  have hl := opN_len s i
  rcases Nat.lt_or_ge i n with hlt | hge
  case' inl =>
   have hd := ha i hlt
   unfold opD at hd
   rw [Bool.and_eq_true, Bool.not_eq_true'] at hd
   obtain ⟨d1, d2⟩ := hd
   have d3 := opB_bad d2
   have e1 := opI_succ s i
   have e2 := opN_succ s i
  case' inr =>
   have he : i = n := Nat.le_antisymm hi hge
   subst he
  all_goals
   repeat' ((conv => whnf); first | (with_reducible first | (refine W1.o ?_; constructor) | rfl | exact castL_self _ _) | ((with_reducible refine V.same_t ?_); exact rfl) | ((with_reducible refine andB_room ?_ ?_ ?_); (· kernel_rfl); (· (first | omega | (simp only [lens] <;> omega)))) | ((with_reducible refine W2.o ?_; constructor); · (first | with_reducible assumption | omega | (simp only [lens] <;> omega))) | ((with_reducible refine W3.o ?_; constructor); · (first | with_reducible assumption | omega | (simp only [lens] <;> omega))) | ((with_reducible refine W4.o ?_; constructor); · (first | (with_reducible first | assumption | exact decide_eq_true rfl | exact sEq_self _) | ((with_reducible refine eqOK_i ?_); kernel_rfl) | exact d1 | exact d2)) | ((with_reducible refine iteB_f ?_ ?_); · (first | (with_reducible first | assumption | exact decide_eq_true rfl | exact sEq_self _) | ((with_reducible refine eqOK_i ?_); kernel_rfl) | exact d1 | exact d2)) | (refine ⟨⟨i + 1, hlt⟩, ?_, rfl, ?_⟩) | (with_reducible refine CD.wk_au ?_) | (with_reducible refine W5.o ?_; constructor) | ((with_reducible refine W6.o ?_; constructor) <;> intro hB))
   all_goals ((conv => whnf); (try dsimp only); (try simp only [Nat.succ_eq_add_one, Nat.le_eq, castL_self]); (try omega))
   all_goals (try (first | omega | (simp only [lens] <;> omega)))
   all_goals first
    | exact rfl
    | omega
    | exact e1.symm
    | (rw [d2, d3]; done)
    | (simp only [e2, hl, lens] <;> omega)
    | (simp (disch := (simp only [hl, lens] <;> omega)) only [seg_all, castL_self]; exact e2.symm)
 ·have q0 := opI_0 s
  have q1 := opN_0 s
  repeat' ((conv => whnf); first | (with_reducible first | (refine W1.o ?_; constructor) | rfl | exact castL_self _ _) | ((with_reducible refine V.same_t ?_); exact rfl) | ((with_reducible refine andB_room ?_ ?_ ?_); (· kernel_rfl); (· (first | omega | (simp only [lens] <;> omega)))) | ((with_reducible refine W2.o ?_; constructor); · (first | with_reducible assumption | omega | (simp only [lens] <;> omega))) | ((with_reducible refine W3.o ?_; constructor); · (first | with_reducible assumption | omega | (simp only [lens] <;> omega))) | ((with_reducible refine W4.o ?_; constructor); · (first | (with_reducible first | assumption | exact decide_eq_true rfl | exact sEq_self _) | ((with_reducible refine eqOK_i ?_); kernel_rfl))) | ((with_reducible refine iteB_f ?_ ?_); · (first | (with_reducible first | assumption | exact decide_eq_true rfl | exact sEq_self _) | ((with_reducible refine eqOK_i ?_); kernel_rfl))) | (with_reducible refine CD.wk_au ?_) | (with_reducible refine W5.o ?_; constructor) | ((with_reducible refine W6.o ?_; constructor) <;> intro hB))
  all_goals ((conv => whnf); (try dsimp only); (try simp only [Nat.succ_eq_add_one, Nat.le_eq, castL_self]); (try omega))
  all_goals (try (first | omega | (simp only [lens] <;> omega)))
  all_goals first
   | exact rfl
   | omega
   | exact en
   | exact q0.symm
   | exact q1.symm
   | exact eE.symm
   | (rw [q1]; exact rfl)
   | (rw [seg_all _ rfl]; exact eL.symm)
theorem ops_big (s : ByteArray) (bad : Bool) (t : TypeId) (hs : s.size ≤ 1000000) (h : ¬ numV s ≤ 1073741824) : HeapX Try.prog 1 60 [.agg [.ptr 0 0], .fn 61 [.agg [.ptr 0 0]] []] (rdO s bad t) (.pan wrongV) anyR 1 := by
 refine heapP_of_H htI_ok noTab_ok (fuel := 4) (d := 6) (N := 1) rfl rfl [] (fun _ _ h => by cases h) ?_
 repeat' ((conv => whnf); first | (with_reducible first | (refine W1.o ?_; constructor) | rfl | exact castL_self _ _) | ((with_reducible refine V.same_t ?_); exact rfl) | ((with_reducible refine andB_room ?_ ?_ ?_); (· kernel_rfl); (· (first | omega | (simp only [lens] <;> omega)))) | ((with_reducible refine W2.o ?_; constructor); · (first | with_reducible assumption | omega | (simp only [lens] <;> omega))) | ((with_reducible refine W3.o ?_; constructor); · (first | with_reducible assumption | omega | (simp only [lens] <;> omega))) | ((with_reducible refine W4.o ?_; constructor); · (first | (with_reducible first | assumption | exact decide_eq_true rfl | exact sEq_self _) | ((with_reducible refine eqOK_i ?_); kernel_rfl))) | ((with_reducible refine iteB_f ?_ ?_); · (first | (with_reducible first | assumption | exact decide_eq_true rfl | exact sEq_self _) | ((with_reducible refine eqOK_i ?_); kernel_rfl))) | (with_reducible refine CD.wk_au ?_) | (with_reducible refine W5.o ?_; constructor) | ((with_reducible refine W6.o ?_; constructor) <;> intro hB))
 all_goals ((conv => whnf); (try dsimp only); (try simp only [Nat.succ_eq_add_one, Nat.le_eq, castL_self]); (try omega))
 all_goals (try (first | omega | (simp only [lens] <;> omega)))
 all_goals first
  | exact rfl
theorem ops_bad (s : ByteArray) (bad : Bool) (t : TypeId) (hs : s.size ≤ 1000000) (hn : numV s ≤ 1073741824) (m : Nat) (hm : (m : Int) < numV s) (ha : ∀ j, j < m → opD s (bad || numB s) j = true) (hb : opD s (bad || numB s) m = false) : HeapX Try.prog 1 60 [.agg [.ptr 0 0], .fn 61 [.agg [.ptr 0 0]] []] (rdO s bad t) (.pan wrongV) anyR 1 := by
 have h1 := numV_in s
 obtain ⟨n, en⟩ : ∃ n : Nat, numV s = (n : Int) := ⟨(numV s).toNat, by omega⟩
 refine heapP_of_H htI_ok noTab_ok (fuel := 4) (d := 6) (N := 1) rfl rfl [⟨3, [(1, 1)], opC s (bad || numB s) n 0, .leaf (.pan wrongV) opX⟩] ?_ ?_
 ·intro N y hy
  rw [List.mem_singleton.1 hy]
  refine LpD.ok_one (b := bodyAt Try.prog 60 3) rfl (loop_H htI_ok noTab_ok (fuel := 4) (d := 6) (X := { i : Nat // i ≤ m }) (fun x => opC s (bad || numB s) n x.1) (fun x => m - x.1)
    (fun _ => .leaf (.pan wrongV) opX) (fun _ => []) (fun _ _ h => by cases h) ?_ ⟨0, Nat.zero_le _⟩)
  rintro ⟨i, hi⟩
  dsimp only
  have hz := opI_size s (bad || numB s) i fun j hj => ha j (by omega)
  have hl := opN_len s i
  rcases Nat.lt_or_ge i m with hlt | hge
  ·have hd := ha i hlt
   unfold opD at hd
   rw [Bool.and_eq_true, Bool.not_eq_true'] at hd
   obtain ⟨d1, d2⟩ := hd
   have d3 := opB_bad d2
   have e1 := opI_succ s i
   have e2 := opN_succ s i
   repeat' ((conv => whnf); first | (with_reducible first | (refine W1.o ?_; constructor) | rfl | exact castL_self _ _) | ((with_reducible refine V.same_t ?_); exact rfl) | ((with_reducible refine andB_room ?_ ?_ ?_); (· kernel_rfl); (· (first | omega | (simp only [lens] <;> omega)))) | ((with_reducible refine W2.o ?_; constructor); · (first | with_reducible assumption | omega | (simp only [lens] <;> omega))) | ((with_reducible refine W3.o ?_; constructor); · (first | with_reducible assumption | omega | (simp only [lens] <;> omega))) | ((with_reducible refine W4.o ?_; constructor); · (first | (with_reducible first | assumption | exact decide_eq_true rfl | exact sEq_self _) | ((with_reducible refine eqOK_i ?_); kernel_rfl) | exact d1 | exact d2)) | ((with_reducible refine iteB_f ?_ ?_); · (first | (with_reducible first | assumption | exact decide_eq_true rfl | exact sEq_self _) | ((with_reducible refine eqOK_i ?_); kernel_rfl) | exact d1 | exact d2)) | (refine ⟨⟨i + 1, hlt⟩, ?_, rfl, ?_⟩) | (with_reducible refine CD.wk_au ?_) | (with_reducible refine W5.o ?_; constructor) | ((with_reducible refine W6.o ?_; constructor) <;> intro hB))
   all_goals ((conv => whnf); (try dsimp only); (try simp only [Nat.succ_eq_add_one, Nat.le_eq, castL_self]); (try omega))
   all_goals (try (first | omega | (simp only [lens] <;> omega)))
   all_goals first
    | exact rfl
    | omega
    | exact e1.symm
    | (rw [d2, d3]; done)
    | (simp only [e2, hl, lens] <;> omega)
    | (simp (disch := (simp only [hl, lens] <;> omega)) only [seg_all, castL_self]; exact e2.symm)
  ·have he : i = m := Nat.le_antisymm hi hge
   subst he
   unfold opD at hb
   rw [Bool.and_eq_false_iff, Bool.not_eq_false'] at hb
   rcases hb with hb | hb
   ·repeat' ((conv => whnf); first | (with_reducible first | (refine W1.o ?_; constructor) | rfl | exact castL_self _ _) | ((with_reducible refine V.same_t ?_); exact rfl) | ((with_reducible refine andB_room ?_ ?_ ?_); (· kernel_rfl); (· (first | omega | (simp only [lens] <;> omega)))) | ((with_reducible refine W2.o ?_; constructor); · (first | with_reducible assumption | omega | (simp only [lens] <;> omega))) | ((with_reducible refine W3.o ?_; constructor); · (first | with_reducible assumption | omega | (simp only [lens] <;> omega))) | ((with_reducible refine W4.o ?_; constructor); · (first | (with_reducible first | assumption | exact decide_eq_true rfl | exact sEq_self _) | ((with_reducible refine eqOK_i ?_); kernel_rfl) | (first | (exact hb)))) | ((with_reducible refine iteB_f ?_ ?_); · (first | (with_reducible first | assumption | exact decide_eq_true rfl | exact sEq_self _) | ((with_reducible refine eqOK_i ?_); kernel_rfl) | (first | (exact hb)))) | (with_reducible refine CD.wk_au ?_) | (with_reducible refine W5.o ?_; constructor) | ((with_reducible refine W6.o ?_; constructor) <;> intro hB))
    all_goals ((conv => whnf); (try dsimp only); (try simp only [Nat.succ_eq_add_one, Nat.le_eq, castL_self]); (try omega))
    all_goals (try (first | omega | (simp only [lens] <;> omega)))
    all_goals first
     | exact rfl
   ·cases hk : opK (opI s i) with
    | true =>
     repeat' ((conv => whnf); first | (with_reducible first | (refine W1.o ?_; constructor) | rfl | exact castL_self _ _) | ((with_reducible refine V.same_t ?_); exact rfl) | ((with_reducible refine andB_room ?_ ?_ ?_); (· kernel_rfl); (· (first | omega | (simp only [lens] <;> omega)))) | ((with_reducible refine W2.o ?_; constructor); · (first | with_reducible assumption | omega | (simp only [lens] <;> omega))) | ((with_reducible refine W3.o ?_; constructor); · (first | with_reducible assumption | omega | (simp only [lens] <;> omega))) | ((with_reducible refine W4.o ?_; constructor); · (first | (with_reducible first | assumption | exact decide_eq_true rfl | exact sEq_self _) | ((with_reducible refine eqOK_i ?_); kernel_rfl) | exact hk | exact hb)) | ((with_reducible refine iteB_f ?_ ?_); · (first | (with_reducible first | assumption | exact decide_eq_true rfl | exact sEq_self _) | ((with_reducible refine eqOK_i ?_); kernel_rfl) | exact hk | exact hb)) | (with_reducible refine CD.wk_au ?_) | (with_reducible refine W5.o ?_; constructor) | ((with_reducible refine W6.o ?_; constructor) <;> intro hB))
     all_goals ((conv => whnf); (try dsimp only); (try simp only [Nat.succ_eq_add_one, Nat.le_eq, castL_self]); (try omega))
     all_goals (try (first | omega | (simp only [lens] <;> omega)))
     all_goals first
      | exact rfl
    | false =>
     repeat' ((conv => whnf); first | (with_reducible first | (refine W1.o ?_; constructor) | rfl | exact castL_self _ _) | ((with_reducible refine V.same_t ?_); exact rfl) | ((with_reducible refine andB_room ?_ ?_ ?_); (· kernel_rfl); (· (first | omega | (simp only [lens] <;> omega)))) | ((with_reducible refine W2.o ?_; constructor); · (first | with_reducible assumption | omega | (simp only [lens] <;> omega))) | ((with_reducible refine W3.o ?_; constructor); · (first | with_reducible assumption | omega | (simp only [lens] <;> omega))) | ((with_reducible refine W4.o ?_; constructor); · (first | (with_reducible first | assumption | exact decide_eq_true rfl | exact sEq_self _) | ((with_reducible refine eqOK_i ?_); kernel_rfl) | exact hk | exact hb)) | ((with_reducible refine iteB_f ?_ ?_); · (first | (with_reducible first | assumption | exact decide_eq_true rfl | exact sEq_self _) | ((with_reducible refine eqOK_i ?_); kernel_rfl) | exact hk | exact hb)) | (with_reducible refine CD.wk_au ?_) | (with_reducible refine W5.o ?_; constructor) | ((with_reducible refine W6.o ?_; constructor) <;> intro hB))
     all_goals ((conv => whnf); (try dsimp only); (try simp only [Nat.succ_eq_add_one, Nat.le_eq, castL_self]); (try omega))
     all_goals (try (first | omega | (simp only [lens] <;> omega)))
     all_goals first
      | exact rfl
 ·have q0 := opI_0 s
  have q1 := opN_0 s
  repeat' ((conv => whnf); first | (with_reducible first | (refine W1.o ?_; constructor) | rfl | exact castL_self _ _) | ((with_reducible refine V.same_t ?_); exact rfl) | ((with_reducible refine andB_room ?_ ?_ ?_); (· kernel_rfl); (· (first | omega | (simp only [lens] <;> omega)))) | ((with_reducible refine W2.o ?_; constructor); · (first | with_reducible assumption | omega | (simp only [lens] <;> omega))) | ((with_reducible refine W3.o ?_; constructor); · (first | with_reducible assumption | omega | (simp only [lens] <;> omega))) | ((with_reducible refine W4.o ?_; constructor); · (first | (with_reducible first | assumption | exact decide_eq_true rfl | exact sEq_self _) | ((with_reducible refine eqOK_i ?_); kernel_rfl))) | ((with_reducible refine iteB_f ?_ ?_); · (first | (with_reducible first | assumption | exact decide_eq_true rfl | exact sEq_self _) | ((with_reducible refine eqOK_i ?_); kernel_rfl))) | (with_reducible refine CD.wk_au ?_) | (with_reducible refine W5.o ?_; constructor) | ((with_reducible refine W6.o ?_; constructor) <;> intro hB))
  all_goals ((conv => whnf); (try dsimp only); (try simp only [Nat.succ_eq_add_one, Nat.le_eq, castL_self]); (try omega))
  all_goals (try (first | omega | (simp only [lens] <;> omega)))
  all_goals first
   | exact rfl
   | omega
   | exact en
   | exact q0.symm
   | exact q1.symm
   | (rw [q1]; exact rfl)
theorem ops_pan (s : ByteArray) (bad : Bool) (t : TypeId) (hs : s.size ≤ 1000000) (h : opS s bad = false) : HeapX Try.prog 1 60 [.agg [.ptr 0 0], .fn 61 [.agg [.ptr 0 0]] []] (rdO s bad t) (.pan wrongV) anyR 1 := by
 by_cases hn : numV s ≤ 1073741824
 ·obtain ⟨m, h1, h2, h3⟩ := opS_not s bad h hn
  exact ops_bad s bad t hs hn m h1 h2 h3
 ·exact ops_big s bad t hs hn
def kvC (s : ByteArray) (b : Bool) (n : Int) (i : Nat) : CD := ⟨21, [(1, .fn 95 [.agg [.ptr 0 0]] []), (2, .ptr 1 0), (5, .rs 2 0 (kvN s i).length (kvN s i).length false 5), (7, .int .i64 n), (8, .int .i64 (i : Int))], [], [(0, .cells [.str (kvI s i), .bool b] 0 false), (1, .cells [.ptr 0 0] 0 false), (2, .rows kvT (kvN s i) 0 false)], 3⟩
def kvX : CD := ⟨21, [], [], [(0, .cells [.any, .any] 0 false)], 1⟩
theorem kvs_ret (s : ByteArray) (bad : Bool) (t : TypeId) (hs : s.size ≤ 1000000) (h : kvS s bad = true) : HeapAt Try.prog 1 94 [.agg [.ptr 0 0], .fn 95 [.agg [.ptr 0 0]] []] (rdO s bad t) (.lst kvT (kvL s) false) (rdR (kvE s) (bad || numB s)) 1 := by
 have h0 := h
 rw [kvS_eq, Bool.and_eq_true, List.all_eq_true, leI_eq, decide_eq_true_eq] at h
 obtain ⟨hn, ha⟩ := h
 have h1 := numV_in s
 obtain ⟨n, en⟩ : ∃ n : Nat, numV s = (n : Int) := ⟨(numV s).toNat, by omega⟩
 have en2 : (numV s).toNat = n := by omega
 have ha : ∀ j, j < n → kvD s (bad || numB s) j = true := fun j hj => ha j (by rw [List.mem_range]; omega)
 have eL := kvL_eq s
 have eE := kvE_eq s
 rw [en2] at eL eE
 refine heap_of_H htI_ok noTab_ok (fuel := 4) (d := 6) (N := 1) rfl rfl [⟨3, [(1, 1)], kvC s (bad || numB s) n 0, .leaf (.exit 0) (kvC s (bad || numB s) n n)⟩] ?_ ?_
 ·intro N y hy
  rw [List.mem_singleton.1 hy]
  refine LpD.ok_one (b := bodyAt Try.prog 94 3) rfl (loop_H htI_ok noTab_ok (fuel := 4) (d := 6) (X := { i : Nat // i ≤ n }) (fun x => kvC s (bad || numB s) n x.1) (fun x => n - x.1)
    (fun _ => .leaf (.exit 0) (kvC s (bad || numB s) n n)) (fun _ => []) (fun _ _ h => by cases h) ?_ ⟨0, Nat.zero_le _⟩)
  rintro ⟨i, hi⟩
  dsimp only
  have hz := kvI_size s (bad || numB s) i fun j hj => ha j (by omega)
  have hl := kvN_len s i
  rcases Nat.lt_or_ge i n with hlt | hge
  case' inl =>
   have hd := ha i hlt
   unfold kvD at hd
   rw [Bool.and_eq_true, Bool.not_eq_true'] at hd
   obtain ⟨d1, d2⟩ := hd
   have d3 := kvB_bad d2
   have e1 := kvI_succ s i
   have e2 := kvN_succ s i
  case' inr =>
   have he : i = n := Nat.le_antisymm hi hge
   subst he
  all_goals
   repeat' ((conv => whnf); first | (with_reducible first | (refine W1.o ?_; constructor) | rfl | exact castL_self _ _) | ((with_reducible refine V.same_t ?_); exact rfl) | ((with_reducible refine andB_room ?_ ?_ ?_); (· kernel_rfl); (· (first | omega | (simp only [lens] <;> omega)))) | ((with_reducible refine W2.o ?_; constructor); · (first | with_reducible assumption | omega | (simp only [lens] <;> omega))) | ((with_reducible refine W3.o ?_; constructor); · (first | with_reducible assumption | omega | (simp only [lens] <;> omega))) | ((with_reducible refine W4.o ?_; constructor); · (first | (with_reducible first | assumption | exact decide_eq_true rfl | exact sEq_self _) | ((with_reducible refine eqOK_i ?_); kernel_rfl) | exact d1 | exact d2)) | ((with_reducible refine iteB_f ?_ ?_); · (first | (with_reducible first | assumption | exact decide_eq_true rfl | exact sEq_self _) | ((with_reducible refine eqOK_i ?_); kernel_rfl) | exact d1 | exact d2)) | (refine ⟨⟨i + 1, hlt⟩, ?_, rfl, ?_⟩) | (with_reducible refine CD.wk_au ?_) | (with_reducible refine W5.o ?_; constructor) | ((with_reducible refine W6.o ?_; constructor) <;> intro hB))
   all_goals ((conv => whnf); (try dsimp only); (try simp only [Nat.succ_eq_add_one, Nat.le_eq, castL_self]); (try omega))
   all_goals (try (first | omega | (simp only [lens] <;> omega)))
   all_goals first
    | exact rfl
    | omega
    | exact e1.symm
    | (rw [d2, d3]; done)
    | (simp only [e2, hl, lens] <;> omega)
    | (simp (disch := (simp only [hl, lens] <;> omega)) only [seg_all, castL_self]; exact e2.symm)
 ·have q0 := kvI_0 s
  have q1 := kvN_0 s
  repeat' ((conv => whnf); first | (with_reducible first | (refine W1.o ?_; constructor) | rfl | exact castL_self _ _) | ((with_reducible refine V.same_t ?_); exact rfl) | ((with_reducible refine andB_room ?_ ?_ ?_); (· kernel_rfl); (· (first | omega | (simp only [lens] <;> omega)))) | ((with_reducible refine W2.o ?_; constructor); · (first | with_reducible assumption | omega | (simp only [lens] <;> omega))) | ((with_reducible refine W3.o ?_; constructor); · (first | with_reducible assumption | omega | (simp only [lens] <;> omega))) | ((with_reducible refine W4.o ?_; constructor); · (first | (with_reducible first | assumption | exact decide_eq_true rfl | exact sEq_self _) | ((with_reducible refine eqOK_i ?_); kernel_rfl))) | ((with_reducible refine iteB_f ?_ ?_); · (first | (with_reducible first | assumption | exact decide_eq_true rfl | exact sEq_self _) | ((with_reducible refine eqOK_i ?_); kernel_rfl))) | (with_reducible refine CD.wk_au ?_) | (with_reducible refine W5.o ?_; constructor) | ((with_reducible refine W6.o ?_; constructor) <;> intro hB))
  all_goals ((conv => whnf); (try dsimp only); (try simp only [Nat.succ_eq_add_one, Nat.le_eq, castL_self]); (try omega))
  all_goals (try (first | omega | (simp only [lens] <;> omega)))
  all_goals first
   | exact rfl
   | omega
   | exact en
   | exact q0.symm
   | exact q1.symm
   | exact eE.symm
   | (rw [q1]; exact rfl)
   | (rw [seg_all _ rfl]; exact eL.symm)
theorem kvs_big (s : ByteArray) (bad : Bool) (t : TypeId) (hs : s.size ≤ 1000000) (h : ¬ numV s ≤ 1073741824) : HeapX Try.prog 1 94 [.agg [.ptr 0 0], .fn 95 [.agg [.ptr 0 0]] []] (rdO s bad t) (.pan wrongV) anyR 1 := by
 refine heapP_of_H htI_ok noTab_ok (fuel := 4) (d := 6) (N := 1) rfl rfl [] (fun _ _ h => by cases h) ?_
 repeat' ((conv => whnf); first | (with_reducible first | (refine W1.o ?_; constructor) | rfl | exact castL_self _ _) | ((with_reducible refine V.same_t ?_); exact rfl) | ((with_reducible refine andB_room ?_ ?_ ?_); (· kernel_rfl); (· (first | omega | (simp only [lens] <;> omega)))) | ((with_reducible refine W2.o ?_; constructor); · (first | with_reducible assumption | omega | (simp only [lens] <;> omega))) | ((with_reducible refine W3.o ?_; constructor); · (first | with_reducible assumption | omega | (simp only [lens] <;> omega))) | ((with_reducible refine W4.o ?_; constructor); · (first | (with_reducible first | assumption | exact decide_eq_true rfl | exact sEq_self _) | ((with_reducible refine eqOK_i ?_); kernel_rfl))) | ((with_reducible refine iteB_f ?_ ?_); · (first | (with_reducible first | assumption | exact decide_eq_true rfl | exact sEq_self _) | ((with_reducible refine eqOK_i ?_); kernel_rfl))) | (with_reducible refine CD.wk_au ?_) | (with_reducible refine W5.o ?_; constructor) | ((with_reducible refine W6.o ?_; constructor) <;> intro hB))
 all_goals ((conv => whnf); (try dsimp only); (try simp only [Nat.succ_eq_add_one, Nat.le_eq, castL_self]); (try omega))
 all_goals (try (first | omega | (simp only [lens] <;> omega)))
 all_goals first
  | exact rfl
theorem kvs_bad (s : ByteArray) (bad : Bool) (t : TypeId) (hs : s.size ≤ 1000000) (hn : numV s ≤ 1073741824) (m : Nat) (hm : (m : Int) < numV s) (ha : ∀ j, j < m → kvD s (bad || numB s) j = true) (hb : kvD s (bad || numB s) m = false) : HeapX Try.prog 1 94 [.agg [.ptr 0 0], .fn 95 [.agg [.ptr 0 0]] []] (rdO s bad t) (.pan wrongV) anyR 1 := by
 have h1 := numV_in s
 obtain ⟨n, en⟩ : ∃ n : Nat, numV s = (n : Int) := ⟨(numV s).toNat, by omega⟩
 refine heapP_of_H htI_ok noTab_ok (fuel := 4) (d := 6) (N := 1) rfl rfl [⟨3, [(1, 1)], kvC s (bad || numB s) n 0, .leaf (.pan wrongV) kvX⟩] ?_ ?_
 ·intro N y hy
  rw [List.mem_singleton.1 hy]
  refine LpD.ok_one (b := bodyAt Try.prog 94 3) rfl (loop_H htI_ok noTab_ok (fuel := 4) (d := 6) (X := { i : Nat // i ≤ m }) (fun x => kvC s (bad || numB s) n x.1) (fun x => m - x.1)
    (fun _ => .leaf (.pan wrongV) kvX) (fun _ => []) (fun _ _ h => by cases h) ?_ ⟨0, Nat.zero_le _⟩)
  rintro ⟨i, hi⟩
  dsimp only
  have hz := kvI_size s (bad || numB s) i fun j hj => ha j (by omega)
  have hl := kvN_len s i
  rcases Nat.lt_or_ge i m with hlt | hge
  ·have hd := ha i hlt
   unfold kvD at hd
   rw [Bool.and_eq_true, Bool.not_eq_true'] at hd
   obtain ⟨d1, d2⟩ := hd
   have d3 := kvB_bad d2
   have e1 := kvI_succ s i
   have e2 := kvN_succ s i
   repeat' ((conv => whnf); first | (with_reducible first | (refine W1.o ?_; constructor) | rfl | exact castL_self _ _) | ((with_reducible refine V.same_t ?_); exact rfl) | ((with_reducible refine andB_room ?_ ?_ ?_); (· kernel_rfl); (· (first | omega | (simp only [lens] <;> omega)))) | ((with_reducible refine W2.o ?_; constructor); · (first | with_reducible assumption | omega | (simp only [lens] <;> omega))) | ((with_reducible refine W3.o ?_; constructor); · (first | with_reducible assumption | omega | (simp only [lens] <;> omega))) | ((with_reducible refine W4.o ?_; constructor); · (first | (with_reducible first | assumption | exact decide_eq_true rfl | exact sEq_self _) | ((with_reducible refine eqOK_i ?_); kernel_rfl) | exact d1 | exact d2)) | ((with_reducible refine iteB_f ?_ ?_); · (first | (with_reducible first | assumption | exact decide_eq_true rfl | exact sEq_self _) | ((with_reducible refine eqOK_i ?_); kernel_rfl) | exact d1 | exact d2)) | (refine ⟨⟨i + 1, hlt⟩, ?_, rfl, ?_⟩) | (with_reducible refine CD.wk_au ?_) | (with_reducible refine W5.o ?_; constructor) | ((with_reducible refine W6.o ?_; constructor) <;> intro hB))
   all_goals ((conv => whnf); (try dsimp only); (try simp only [Nat.succ_eq_add_one, Nat.le_eq, castL_self]); (try omega))
   all_goals (try (first | omega | (simp only [lens] <;> omega)))
   all_goals first
    | exact rfl
    | omega
    | exact e1.symm
    | (rw [d2, d3]; done)
    | (simp only [e2, hl, lens] <;> omega)
    | (simp (disch := (simp only [hl, lens] <;> omega)) only [seg_all, castL_self]; exact e2.symm)
  ·have he : i = m := Nat.le_antisymm hi hge
   subst he
   unfold kvD at hb
   rw [Bool.and_eq_false_iff, Bool.not_eq_false'] at hb
   rcases hb with hb | hb
   ·repeat' ((conv => whnf); first | (with_reducible first | (refine W1.o ?_; constructor) | rfl | exact castL_self _ _) | ((with_reducible refine V.same_t ?_); exact rfl) | ((with_reducible refine andB_room ?_ ?_ ?_); (· kernel_rfl); (· (first | omega | (simp only [lens] <;> omega)))) | ((with_reducible refine W2.o ?_; constructor); · (first | with_reducible assumption | omega | (simp only [lens] <;> omega))) | ((with_reducible refine W3.o ?_; constructor); · (first | with_reducible assumption | omega | (simp only [lens] <;> omega))) | ((with_reducible refine W4.o ?_; constructor); · (first | (with_reducible first | assumption | exact decide_eq_true rfl | exact sEq_self _) | ((with_reducible refine eqOK_i ?_); kernel_rfl) | (first | (exact hb)))) | ((with_reducible refine iteB_f ?_ ?_); · (first | (with_reducible first | assumption | exact decide_eq_true rfl | exact sEq_self _) | ((with_reducible refine eqOK_i ?_); kernel_rfl) | (first | (exact hb)))) | (with_reducible refine CD.wk_au ?_) | (with_reducible refine W5.o ?_; constructor) | ((with_reducible refine W6.o ?_; constructor) <;> intro hB))
    all_goals ((conv => whnf); (try dsimp only); (try simp only [Nat.succ_eq_add_one, Nat.le_eq, castL_self]); (try omega))
    all_goals (try (first | omega | (simp only [lens] <;> omega)))
    all_goals first
     | exact rfl
   ·cases hk : kvK (kvI s i) with
    | true =>
     repeat' ((conv => whnf); first | (with_reducible first | (refine W1.o ?_; constructor) | rfl | exact castL_self _ _) | ((with_reducible refine V.same_t ?_); exact rfl) | ((with_reducible refine andB_room ?_ ?_ ?_); (· kernel_rfl); (· (first | omega | (simp only [lens] <;> omega)))) | ((with_reducible refine W2.o ?_; constructor); · (first | with_reducible assumption | omega | (simp only [lens] <;> omega))) | ((with_reducible refine W3.o ?_; constructor); · (first | with_reducible assumption | omega | (simp only [lens] <;> omega))) | ((with_reducible refine W4.o ?_; constructor); · (first | (with_reducible first | assumption | exact decide_eq_true rfl | exact sEq_self _) | ((with_reducible refine eqOK_i ?_); kernel_rfl) | exact hk | exact hb)) | ((with_reducible refine iteB_f ?_ ?_); · (first | (with_reducible first | assumption | exact decide_eq_true rfl | exact sEq_self _) | ((with_reducible refine eqOK_i ?_); kernel_rfl) | exact hk | exact hb)) | (with_reducible refine CD.wk_au ?_) | (with_reducible refine W5.o ?_; constructor) | ((with_reducible refine W6.o ?_; constructor) <;> intro hB))
     all_goals ((conv => whnf); (try dsimp only); (try simp only [Nat.succ_eq_add_one, Nat.le_eq, castL_self]); (try omega))
     all_goals (try (first | omega | (simp only [lens] <;> omega)))
     all_goals first
      | exact rfl
    | false =>
     repeat' ((conv => whnf); first | (with_reducible first | (refine W1.o ?_; constructor) | rfl | exact castL_self _ _) | ((with_reducible refine V.same_t ?_); exact rfl) | ((with_reducible refine andB_room ?_ ?_ ?_); (· kernel_rfl); (· (first | omega | (simp only [lens] <;> omega)))) | ((with_reducible refine W2.o ?_; constructor); · (first | with_reducible assumption | omega | (simp only [lens] <;> omega))) | ((with_reducible refine W3.o ?_; constructor); · (first | with_reducible assumption | omega | (simp only [lens] <;> omega))) | ((with_reducible refine W4.o ?_; constructor); · (first | (with_reducible first | assumption | exact decide_eq_true rfl | exact sEq_self _) | ((with_reducible refine eqOK_i ?_); kernel_rfl) | exact hk | exact hb)) | ((with_reducible refine iteB_f ?_ ?_); · (first | (with_reducible first | assumption | exact decide_eq_true rfl | exact sEq_self _) | ((with_reducible refine eqOK_i ?_); kernel_rfl) | exact hk | exact hb)) | (with_reducible refine CD.wk_au ?_) | (with_reducible refine W5.o ?_; constructor) | ((with_reducible refine W6.o ?_; constructor) <;> intro hB))
     all_goals ((conv => whnf); (try dsimp only); (try simp only [Nat.succ_eq_add_one, Nat.le_eq, castL_self]); (try omega))
     all_goals (try (first | omega | (simp only [lens] <;> omega)))
     all_goals first
      | exact rfl
 ·have q0 := kvI_0 s
  have q1 := kvN_0 s
  repeat' ((conv => whnf); first | (with_reducible first | (refine W1.o ?_; constructor) | rfl | exact castL_self _ _) | ((with_reducible refine V.same_t ?_); exact rfl) | ((with_reducible refine andB_room ?_ ?_ ?_); (· kernel_rfl); (· (first | omega | (simp only [lens] <;> omega)))) | ((with_reducible refine W2.o ?_; constructor); · (first | with_reducible assumption | omega | (simp only [lens] <;> omega))) | ((with_reducible refine W3.o ?_; constructor); · (first | with_reducible assumption | omega | (simp only [lens] <;> omega))) | ((with_reducible refine W4.o ?_; constructor); · (first | (with_reducible first | assumption | exact decide_eq_true rfl | exact sEq_self _) | ((with_reducible refine eqOK_i ?_); kernel_rfl))) | ((with_reducible refine iteB_f ?_ ?_); · (first | (with_reducible first | assumption | exact decide_eq_true rfl | exact sEq_self _) | ((with_reducible refine eqOK_i ?_); kernel_rfl))) | (with_reducible refine CD.wk_au ?_) | (with_reducible refine W5.o ?_; constructor) | ((with_reducible refine W6.o ?_; constructor) <;> intro hB))
  all_goals ((conv => whnf); (try dsimp only); (try simp only [Nat.succ_eq_add_one, Nat.le_eq, castL_self]); (try omega))
  all_goals (try (first | omega | (simp only [lens] <;> omega)))
  all_goals first
   | exact rfl
   | omega
   | exact en
   | exact q0.symm
   | exact q1.symm
   | (rw [q1]; exact rfl)
theorem kvs_pan (s : ByteArray) (bad : Bool) (t : TypeId) (hs : s.size ≤ 1000000) (h : kvS s bad = false) : HeapX Try.prog 1 94 [.agg [.ptr 0 0], .fn 95 [.agg [.ptr 0 0]] []] (rdO s bad t) (.pan wrongV) anyR 1 := by
 by_cases hn : numV s ≤ 1073741824
 ·obtain ⟨m, h1, h2, h3⟩ := kvS_not s bad h hn
  exact kvs_bad s bad t hs hn m h1 h2 h3
 ·exact kvs_big s bad t hs hn
end Go.Proofs.Ytaloolcabmfjbaa
end
