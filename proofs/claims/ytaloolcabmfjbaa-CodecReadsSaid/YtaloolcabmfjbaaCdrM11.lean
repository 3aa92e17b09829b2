/-
  Texts of this claim, one behind the other: CdRe CdRs. Each says its own conditions.
-/
import Derived.Test.YtaloolcabmfjbaaCdrM10
import Derived.Test.YtaloolcabmfjbaaCdrM8

set_option linter.unusedVariables false
set_option linter.unusedSimpArgs false
set_option linter.unusedSectionVars false
noncomputable section
namespace Go.Proofs.Ytaloolcabmfjbaa
open Go.Sym
set_option maxRecDepth 100000
set_option maxHeartbeats 4000000
def svXF (m : FuncId) (q : ByteArray → Bool → Bool) (v : ByteArray → V) (r : ByteArray → ByteArray) (args : List V) (os : List EObj) : Option HR := match args, os with
 | [.agg [.ptr p o], .fn g [.agg [.ptr p2 o2]] []], [.cells [.str s, .bool bad] t i] => some (.ite (q s bad) (.res [Nat.beq g m, Nat.beq p 0, Nat.beq o 0, Nat.beq p2 0, Nat.beq o2 0, !i, decide (s.size ≤ 1000000)] (.ret (v s)) (rdR (r s) (bad || numB s)) 1) (.res [Nat.beq g m, Nat.beq p 0, Nat.beq o 0, Nat.beq p2 0, Nat.beq o2 0, !i, decide (s.size ≤ 1000000)] (.pan wrongV) anyR 1))
 | _, _ => none
theorem svXF_ok {P : Program} {f m : FuncId} {q : ByteArray → Bool → Bool} {v : ByteArray → V} {r : ByteArray → ByteArray}
  (h1 : ∀ s bad t, s.size ≤ 1000000 → q s bad = true → HeapAt P 1 f [.agg [.ptr 0 0], .fn m [.agg [.ptr 0 0]] []] (rdO s bad t) (v s) (rdR (r s) (bad || numB s)) 1) (h2 : ∀ s bad t, s.size ≤ 1000000 → q s bad = false → HeapX P 1 f [.agg [.ptr 0 0], .fn m [.agg [.ptr 0 0]] []] (rdO s bad t) (.pan wrongV) anyR 1)
  (args : List V) (os : List EObj) (x : HR) (h : svXF m q v r args os = some x) : HRAt P 1 f args os x := by
 unfold svXF at h
 split at h
 ·cases h
  refine ⟨fun hq hc => ?_, fun hq hc => ?_⟩
  all_goals
   obtain ⟨c0, c1, c2, c3, c4, c5, c6, _⟩ := hc
   rw [Bool.not_eq_true'] at c5
   subst c5
   rw [Nat.eq_of_beq_eq_true c0, Nat.eq_of_beq_eq_true c1, Nat.eq_of_beq_eq_true c2, Nat.eq_of_beq_eq_true c3, Nat.eq_of_beq_eq_true c4]
  ·exact (h1 _ _ _ (of_decide_eq_true c6) hq).x
  ·exact h2 _ _ _ (of_decide_eq_true c6) hq
 ·cases h
def htV : HTab := oneXT 58 1 false (svXF 59 cmS (fun s => .lst cmT (cmL s) false) cmE) (oneXT 60 1 false (svXF 61 opS (fun s => .lst opT (opL s) false) opE) (oneXT 94 1 false (svXF 95 kvS (fun s => .lst kvT (kvL s) false) kvE) htS))
theorem htV_ok : HTabOK Try.prog htV := oneXT_ok (svXF_ok (fun s bad t hs h => cms_ret s bad t hs h) fun s bad t hs h => cms_pan s bad t hs h) (oneXT_ok (svXF_ok (fun s bad t hs h => ops_ret s bad t hs h) fun s bad t hs h => ops_pan s bad t hs h) (oneXT_ok (svXF_ok (fun s bad t hs h => kvs_ret s bad t hs h) fun s bad t hs h => kvs_pan s bad t hs h) htS_ok))
theorem re_ret (s : ByteArray) (bad : Bool) (t : TypeId) (hs : s.size ≤ 1000000) (h : reK s bad = true) : HeapAt Try.prog 1 72 [.agg [.ptr 0 0]] (rdO s bad t) (reG (reV s)) (rdR (reR s) (reB s bad)) 1 := by
 rw [reK_eq] at h
 simp only [Bool.and_eq_true, leI_eq, decide_eq_true_eq] at h
 obtain ⟨⟨⟨⟨m0, m1⟩, m2⟩, m3⟩, m4⟩ := h
 have z0 := kvE_size s bad m0
 have z1 := numR_size (kvE s)
 have z2 := numR_size (numR (kvE s))
 have z3 := numR_size (numR (numR (kvE s)))
 have z4 := kvE_size (numR (numR (numR (kvE s)))) ((((bad || numB s) || numB (kvE s)) || numB (numR (kvE s))) || numB (numR (numR (kvE s)))) m4
 have y0 := numV_in s
 have y1 := numV_in (kvE s)
 have y2 := numV_in (numR (kvE s))
 have y3 := numV_in (numR (numR (kvE s)))
 have e1 := reV_eq s
 have e2 := reR_eq s
 have e3 := reB_eq s bad
 refine heap_of_H htV_ok noTab_ok (fuel := 4) (d := 6) (N := 1) rfl rfl [] (fun _ _ h => by cases h) ?_
 repeat' ((conv => whnf); first | (with_reducible first | (refine W1.o ?_; constructor) | rfl | exact castL_self _ _) | ((with_reducible refine V.same_t ?_); exact rfl) | ((with_reducible refine andB_room ?_ ?_ ?_); (· kernel_rfl); (· (first | omega | (simp only [lens] <;> omega)))) | ((with_reducible refine W2.o ?_; constructor); · (first | with_reducible assumption | omega | (simp only [lens] <;> omega))) | ((with_reducible refine W3.o ?_; constructor); · (first | with_reducible assumption | omega | (simp only [lens] <;> omega))) | ((with_reducible refine W4.o ?_; constructor); · (first | (with_reducible first | assumption | exact decide_eq_true rfl | exact sEq_self _) | ((with_reducible refine eqOK_i ?_); kernel_rfl) | exact m0 | exact m4)) | ((with_reducible refine iteB_f ?_ ?_); · (first | (with_reducible first | assumption | exact decide_eq_true rfl | exact sEq_self _) | ((with_reducible refine eqOK_i ?_); kernel_rfl) | exact m0 | exact m4)) | (with_reducible refine CD.wk_au ?_) | (with_reducible refine W5.o ?_; constructor) | ((with_reducible refine W6.o ?_; constructor) <;> intro hB))
 all_goals ((conv => whnf); (try dsimp only); (try simp only [Nat.succ_eq_add_one, Nat.le_eq, castL_self]); (try omega))
 all_goals (try (first | omega | (simp only [lens] <;> omega)))
 all_goals first
  | exact rfl
  | exact e2.symm
  | exact e3.symm
  | (rw [e1]; done)
  | (rw [e1]; exact rfl)
theorem re_pan (s : ByteArray) (bad : Bool) (t : TypeId) (hs : s.size ≤ 1000000) (h : reK s bad = false) : HeapX Try.prog 1 72 [.agg [.ptr 0 0]] (rdO s bad t) (.pan wrongV) anyR 1 := by
 have y0 := numV_in s
 have y1 := numV_in (kvE s)
 have y2 := numV_in (numR (kvE s))
 have y3 := numV_in (numR (numR (kvE s)))
 rw [reK_eq] at h
 cases m0 : kvS s bad with
 | false =>
  refine heapP_of_H htV_ok noTab_ok (fuel := 4) (d := 6) (N := 1) rfl rfl [] (fun _ _ h => by cases h) ?_
  repeat' ((conv => whnf); first | (with_reducible first | (refine W1.o ?_; constructor) | rfl | exact castL_self _ _) | ((with_reducible refine V.same_t ?_); exact rfl) | ((with_reducible refine andB_room ?_ ?_ ?_); (· kernel_rfl); (· (first | omega | (simp only [lens] <;> omega)))) | ((with_reducible refine W2.o ?_; constructor); · (first | with_reducible assumption | omega | (simp only [lens] <;> omega))) | ((with_reducible refine W3.o ?_; constructor); · (first | with_reducible assumption | omega | (simp only [lens] <;> omega))) | ((with_reducible refine W4.o ?_; constructor); · (first | (with_reducible first | assumption | exact decide_eq_true rfl | exact sEq_self _) | ((with_reducible refine eqOK_i ?_); kernel_rfl) | (first | (exact m0)))) | ((with_reducible refine iteB_f ?_ ?_); · (first | (with_reducible first | assumption | exact decide_eq_true rfl | exact sEq_self _) | ((with_reducible refine eqOK_i ?_); kernel_rfl) | (first | (exact m0)))) | (with_reducible refine CD.wk_au ?_) | (with_reducible refine W5.o ?_; constructor) | ((with_reducible refine W6.o ?_; constructor) <;> intro hB))
  all_goals ((conv => whnf); (try dsimp only); (try simp only [Nat.succ_eq_add_one, Nat.le_eq, castL_self]); (try omega))
  all_goals (try (first | omega | (simp only [lens] <;> omega)))
  all_goals first
   | exact rfl
 | true =>
  have z0 := kvE_size s bad m0
  have z1 := numR_size (kvE s)
  have z2 := numR_size (numR (kvE s))
  have z3 := numR_size (numR (numR (kvE s)))
  cases m4 : kvS (numR (numR (numR (kvE s)))) ((((bad || numB s) || numB (kvE s)) || numB (numR (kvE s))) || numB (numR (numR (kvE s)))) with
  | false =>
   refine heapP_of_H htV_ok noTab_ok (fuel := 4) (d := 6) (N := 1) rfl rfl [] (fun _ _ h => by cases h) ?_
   repeat' ((conv => whnf); first | (with_reducible first | (refine W1.o ?_; constructor) | rfl | exact castL_self _ _) | ((with_reducible refine V.same_t ?_); exact rfl) | ((with_reducible refine andB_room ?_ ?_ ?_); (· kernel_rfl); (· (first | omega | (simp only [lens] <;> omega)))) | ((with_reducible refine W2.o ?_; constructor); · (first | with_reducible assumption | omega | (simp only [lens] <;> omega))) | ((with_reducible refine W3.o ?_; constructor); · (first | with_reducible assumption | omega | (simp only [lens] <;> omega))) | ((with_reducible refine W4.o ?_; constructor); · (first | (with_reducible first | assumption | exact decide_eq_true rfl | exact sEq_self _) | ((with_reducible refine eqOK_i ?_); kernel_rfl) | exact m0 | exact m4)) | ((with_reducible refine iteB_f ?_ ?_); · (first | (with_reducible first | assumption | exact decide_eq_true rfl | exact sEq_self _) | ((with_reducible refine eqOK_i ?_); kernel_rfl) | exact m0 | exact m4)) | (with_reducible refine CD.wk_au ?_) | (with_reducible refine W5.o ?_; constructor) | ((with_reducible refine W6.o ?_; constructor) <;> intro hB))
   all_goals ((conv => whnf); (try dsimp only); (try simp only [Nat.succ_eq_add_one, Nat.le_eq, castL_self]); (try omega))
   all_goals (try (first | omega | (simp only [lens] <;> omega)))
   all_goals first
    | exact rfl
  | true =>
   have z4 := kvE_size (numR (numR (numR (kvE s)))) ((((bad || numB s) || numB (kvE s)) || numB (numR (kvE s))) || numB (numR (numR (kvE s)))) m4
   rw [m0, m4] at h
   simp only [Bool.and_eq_false_iff, leI_eq, decide_eq_false_iff_not] at h
   have h : ¬ numV (kvE s) ≤ 1 ∨ ¬ numV (numR (kvE s)) ≤ 1073741824 ∨ ¬ numV (numR (numR (kvE s))) ≤ 1073741824 := by
    rcases h with (((h | h) | h) | h) | h
    ·cases h
    ·exact .inl h
    ·exact .inr (.inl h)
    ·exact .inr (.inr h)
    ·cases h
   refine heapP_of_H htV_ok noTab_ok (fuel := 4) (d := 6) (N := 1) rfl rfl [] (fun _ _ h => by cases h) ?_
   repeat' ((conv => whnf); first | (with_reducible first | (refine W1.o ?_; constructor) | rfl | exact castL_self _ _) | ((with_reducible refine V.same_t ?_); exact rfl) | ((with_reducible refine andB_room ?_ ?_ ?_); (· kernel_rfl); (· (first | omega | (simp only [lens] <;> omega)))) | ((with_reducible refine W2.o ?_; constructor); · (first | with_reducible assumption | omega | (simp only [lens] <;> omega))) | ((with_reducible refine W3.o ?_; constructor); · (first | with_reducible assumption | omega | (simp only [lens] <;> omega))) | ((with_reducible refine W4.o ?_; constructor); · (first | (with_reducible first | assumption | exact decide_eq_true rfl | exact sEq_self _) | ((with_reducible refine eqOK_i ?_); kernel_rfl) | exact m0 | exact m4)) | ((with_reducible refine iteB_f ?_ ?_); · (first | (with_reducible first | assumption | exact decide_eq_true rfl | exact sEq_self _) | ((with_reducible refine eqOK_i ?_); kernel_rfl) | exact m0 | exact m4)) | (with_reducible refine CD.wk_au ?_) | (with_reducible refine W5.o ?_; constructor) | ((with_reducible refine W6.o ?_; constructor) <;> intro hB))
   all_goals ((conv => whnf); (try dsimp only); (try simp only [Nat.succ_eq_add_one, Nat.le_eq, castL_self]); (try omega))
   all_goals (try (first | omega | (simp only [lens] <;> omega)))
   all_goals first
    | exact rfl
def htW : HTab := oneXT 72 1 false (rdXF reK (fun s _ => reG (reV s)) reR reB) htV
theorem htW_ok : HTabOK Try.prog htW := oneXT_ok (rdXF_ok (fun s bad t hs h => re_ret s bad t hs h) fun s bad t hs h => re_pan s bad t hs h) htV_ok
end Go.Proofs.Ytaloolcabmfjbaa
end

noncomputable section
namespace Go.Proofs.Ytaloolcabmfjbaa
open Go.Sym
set_option maxRecDepth 100000
set_option maxHeartbeats 4000000
def reC (s : ByteArray) (b : Bool) (n : Int) (i : Nat) : CD := ⟨21, [(1, .fn 72 [.agg [.ptr 0 0]] []), (2, .ptr 1 0), (5, .rs 2 0 (reN s i).length (reN s i).length false 5), (7, .int .i64 n), (8, .int .i64 (i : Int))], [], [(0, .cells [.str (reI s i), .bool b] 0 false), (1, .cells [.ptr 0 0] 0 false), (2, .rows reT (reN s i) 0 false)], 3⟩
def reX : CD := ⟨21, [], [], [(0, .cells [.any, .any] 0 false)], 1⟩
theorem res_ret (s : ByteArray) (bad : Bool) (t : TypeId) (hs : s.size ≤ 1000000) (h : reS s bad = true) : HeapAt Try.prog 1 71 [.agg [.ptr 0 0], .fn 72 [.agg [.ptr 0 0]] []] (rdO s bad t) (.lst reT (reL s) false) (rdR (reE s) (bad || numB s)) 1 := by
 have h0 := h
 rw [reS_eq, Bool.and_eq_true, List.all_eq_true, leI_eq, decide_eq_true_eq] at h
 obtain ⟨hn, ha⟩ := h
 have h1 := numV_in s
 obtain ⟨n, en⟩ : ∃ n : Nat, numV s = (n : Int) := ⟨(numV s).toNat, by omega⟩
 have en2 : (numV s).toNat = n := by omega
 have ha : ∀ j, j < n → reD s (bad || numB s) j = true := fun j hj => ha j (by rw [List.mem_range]; omega)
 have eL := reL_eq s
 have eE := reE_eq s
 rw [en2] at eL eE
 refine heap_of_H htW_ok noTab_ok (fuel := 4) (d := 6) (N := 1) rfl rfl [⟨3, [(1, 1)], reC s (bad || numB s) n 0, .leaf (.exit 0) (reC s (bad || numB s) n n)⟩] ?_ ?_
 ·intro N y hy
  rw [List.mem_singleton.1 hy]
  refine LpD.ok_one (b := bodyAt Try.prog 71 3) rfl (loop_H htW_ok noTab_ok (fuel := 4) (d := 6) (X := { i : Nat // i ≤ n }) (fun x => reC s (bad || numB s) n x.1) (fun x => n - x.1)
    (fun _ => .leaf (.exit 0) (reC s (bad || numB s) n n)) (fun _ => []) (fun _ _ h => by cases h) ?_ ⟨0, Nat.zero_le _⟩)
  rintro ⟨i, hi⟩
  dsimp only
  have hz := reI_size s (bad || numB s) i fun j hj => ha j (by omega)
  have hl := reN_len s i
  rcases Nat.lt_or_ge i n with hlt | hge
  case' inl =>
   have hd := ha i hlt
   unfold reD at hd
   rw [Bool.and_eq_true, Bool.not_eq_true'] at hd
   obtain ⟨d1, d2⟩ := hd
   have d3 := reB_bad d2
   have e1 := reI_succ s i
   have e2 := reN_succ s i
  case' inr =>
   have he : i = n := Nat.le_antisymm hi hge
   subst he
  all_goals
   repeat' ((conv => whnf); first | (with_reducible first | (refine W1.o ?_; constructor) | rfl | exact castL_self _ _) | ((with_reducible refine V.same_t ?_); exact rfl) | ((with_reducible refine andB_room ?_ ?_ ?_); (· kernel_rfl); (· (first | omega | (simp only [lens] <;> omega)))) | ((with_reducible refine W2.o ?_; constructor); · (first | with_reducible assumption | omega | (simp only [lens] <;> omega))) | ((with_reducible refine W3.o ?_; constructor); · (first | with_reducible assumption | omega | (simp only [lens] <;> omega))) | ((with_reducible refine W4.o ?_; constructor); · (first | (with_reducible first | assumption | exact decide_eq_true rfl | exact sEq_self _) | ((with_reducible refine eqOK_i ?_); kernel_rfl) | exact d1 | exact d2)) | ((with_reducible refine iteB_f ?_ ?_); · (first | (with_reducible first | assumption | exact decide_eq_true rfl | exact sEq_self _) | ((with_reducible refine eqOK_i ?_); kernel_rfl) | exact d1 | exact d2)) | (refine ⟨⟨i + 1, hlt⟩, ?_, rfl, ?_⟩) | (with_reducible refine CD.wk_au ?_) | (with_reducible refine W5.o ?_; constructor) | ((with_reducible refine W6.o ?_; constructor) <;> intro hB))
   all_goals ((conv => whnf); (try dsimp only); (try simp only [Nat.succ_eq_add_one, Nat.le_eq, castL_self]); (try omega))
   all_goals (try (first | omega | (simp only [lens] <;> omega)))
   all_goals first
    | exact rfl
    | omega
    | exact e1.symm
    | (rw [d2, d3]; done)
    | (simp only [e2, hl, lens] <;> omega)
    | (simp (disch := (simp only [hl, lens] <;> omega)) only [seg_all, castL_self]; exact e2.symm)
 ·have q0 := reI_0 s
  have q1 := reN_0 s
  repeat' ((conv => whnf); first | (with_reducible first | (refine W1.o ?_; constructor) | rfl | exact castL_self _ _) | ((with_reducible refine V.same_t ?_); exact rfl) | ((with_reducible refine andB_room ?_ ?_ ?_); (· kernel_rfl); (· (first | omega | (simp only [lens] <;> omega)))) | ((with_reducible refine W2.o ?_; constructor); · (first | with_reducible assumption | omega | (simp only [lens] <;> omega))) | ((with_reducible refine W3.o ?_; constructor); · (first | with_reducible assumption | omega | (simp only [lens] <;> omega))) | ((with_reducible refine W4.o ?_; constructor); · (first | (with_reducible first | assumption | exact decide_eq_true rfl | exact sEq_self _) | ((with_reducible refine eqOK_i ?_); kernel_rfl))) | ((with_reducible refine iteB_f ?_ ?_); · (first | (with_reducible first | assumption | exact decide_eq_true rfl | exact sEq_self _) | ((with_reducible refine eqOK_i ?_); kernel_rfl))) | (with_reducible refine CD.wk_au ?_) | (with_reducible refine W5.o ?_; constructor) | ((with_reducible refine W6.o ?_; constructor) <;> intro hB))
  all_goals ((conv => whnf); (try dsimp only); (try simp only [Nat.succ_eq_add_one, Nat.le_eq, castL_self]); (try omega))
  all_goals (try (first | omega | (simp only [lens] <;> omega)))
  all_goals first
   | exact rfl
   | omega
   | exact en
   | exact q0.symm
   | exact q1.symm
   | exact eE.symm
   | (rw [q1]; exact rfl)
   | (rw [seg_all _ rfl]; exact eL.symm)
theorem res_big (s : ByteArray) (bad : Bool) (t : TypeId) (hs : s.size ≤ 1000000) (h : ¬ numV s ≤ 1073741824) : HeapX Try.prog 1 71 [.agg [.ptr 0 0], .fn 72 [.agg [.ptr 0 0]] []] (rdO s bad t) (.pan wrongV) anyR 1 := by
 refine heapP_of_H htW_ok noTab_ok (fuel := 4) (d := 6) (N := 1) rfl rfl [] (fun _ _ h => by cases h) ?_
 repeat' ((conv => whnf); first | (with_reducible first | (refine W1.o ?_; constructor) | rfl | exact castL_self _ _) | ((with_reducible refine V.same_t ?_); exact rfl) | ((with_reducible refine andB_room ?_ ?_ ?_); (· kernel_rfl); (· (first | omega | (simp only [lens] <;> omega)))) | ((with_reducible refine W2.o ?_; constructor); · (first | with_reducible assumption | omega | (simp only [lens] <;> omega))) | ((with_reducible refine W3.o ?_; constructor); · (first | with_reducible assumption | omega | (simp only [lens] <;> omega))) | ((with_reducible refine W4.o ?_; constructor); · (first | (with_reducible first | assumption | exact decide_eq_true rfl | exact sEq_self _) | ((with_reducible refine eqOK_i ?_); kernel_rfl))) | ((with_reducible refine iteB_f ?_ ?_); · (first | (with_reducible first | assumption | exact decide_eq_true rfl | exact sEq_self _) | ((with_reducible refine eqOK_i ?_); kernel_rfl))) | (with_reducible refine CD.wk_au ?_) | (with_reducible refine W5.o ?_; constructor) | ((with_reducible refine W6.o ?_; constructor) <;> intro hB))
 all_goals ((conv => whnf); (try dsimp only); (try simp only [Nat.succ_eq_add_one, Nat.le_eq, castL_self]); (try omega))
 all_goals (try (first | omega | (simp only [lens] <;> omega)))
 all_goals first
  | exact rfl
theorem res_bad (s : ByteArray) (bad : Bool) (t : TypeId) (hs : s.size ≤ 1000000) (hn : numV s ≤ 1073741824) (m : Nat) (hm : (m : Int) < numV s) (ha : ∀ j, j < m → reD s (bad || numB s) j = true) (hb : reD s (bad || numB s) m = false) : HeapX Try.prog 1 71 [.agg [.ptr 0 0], .fn 72 [.agg [.ptr 0 0]] []] (rdO s bad t) (.pan wrongV) anyR 1 := by
 have h1 := numV_in s
 obtain ⟨n, en⟩ : ∃ n : Nat, numV s = (n : Int) := ⟨(numV s).toNat, by omega⟩
 refine heapP_of_H htW_ok noTab_ok (fuel := 4) (d := 6) (N := 1) rfl rfl [⟨3, [(1, 1)], reC s (bad || numB s) n 0, .leaf (.pan wrongV) reX⟩] ?_ ?_
 ·intro N y hy
  rw [List.mem_singleton.1 hy]
  refine LpD.ok_one (b := bodyAt Try.prog 71 3) rfl (loop_H htW_ok noTab_ok (fuel := 4) (d := 6) (X := { i : Nat // i ≤ m }) (fun x => reC s (bad || numB s) n x.1) (fun x => m - x.1)
    (fun _ => .leaf (.pan wrongV) reX) (fun _ => []) (fun _ _ h => by cases h) ?_ ⟨0, Nat.zero_le _⟩)
  rintro ⟨i, hi⟩
  dsimp only
  have hz := reI_size s (bad || numB s) i fun j hj => ha j (by omega)
  have hl := reN_len s i
  rcases Nat.lt_or_ge i m with hlt | hge
  ·have hd := ha i hlt
   unfold reD at hd
   rw [Bool.and_eq_true, Bool.not_eq_true'] at hd
   obtain ⟨d1, d2⟩ := hd
   have d3 := reB_bad d2
   have e1 := reI_succ s i
   have e2 := reN_succ s i
   repeat' ((conv => whnf); first | (with_reducible first | (refine W1.o ?_; constructor) | rfl | exact castL_self _ _) | ((with_reducible refine V.same_t ?_); exact rfl) | ((with_reducible refine andB_room ?_ ?_ ?_); (· kernel_rfl); (· (first | omega | (simp only [lens] <;> omega)))) | ((with_reducible refine W2.o ?_; constructor); · (first | with_reducible assumption | omega | (simp only [lens] <;> omega))) | ((with_reducible refine W3.o ?_; constructor); · (first | with_reducible assumption | omega | (simp only [lens] <;> omega))) | ((with_reducible refine W4.o ?_; constructor); · (first | (with_reducible first | assumption | exact decide_eq_true rfl | exact sEq_self _) | ((with_reducible refine eqOK_i ?_); kernel_rfl) | exact d1 | exact d2)) | ((with_reducible refine iteB_f ?_ ?_); · (first | (with_reducible first | assumption | exact decide_eq_true rfl | exact sEq_self _) | ((with_reducible refine eqOK_i ?_); kernel_rfl) | exact d1 | exact d2)) | (refine ⟨⟨i + 1, hlt⟩, ?_, rfl, ?_⟩) | (with_reducible refine CD.wk_au ?_) | (with_reducible refine W5.o ?_; constructor) | ((with_reducible refine W6.o ?_; constructor) <;> intro hB))
   all_goals ((conv => whnf); (try dsimp only); (try simp only [Nat.succ_eq_add_one, Nat.le_eq, castL_self]); (try omega))
   all_goals (try (first | omega | (simp only [lens] <;> omega)))
   all_goals first
    | exact rfl
    | omega
    | exact e1.symm
    | (rw [d2, d3]; done)
    | (simp only [e2, hl, lens] <;> omega)
    | (simp (disch := (simp only [hl, lens] <;> omega)) only [seg_all, castL_self]; exact e2.symm)
  ·have he : i = m := Nat.le_antisymm hi hge
   subst he
   unfold reD at hb
   rw [Bool.and_eq_false_iff, Bool.not_eq_false'] at hb
   rcases hb with hb | hb
   ·repeat' ((conv => whnf); first | (with_reducible first | (refine W1.o ?_; constructor) | rfl | exact castL_self _ _) | ((with_reducible refine V.same_t ?_); exact rfl) | ((with_reducible refine andB_room ?_ ?_ ?_); (· kernel_rfl); (· (first | omega | (simp only [lens] <;> omega)))) | ((with_reducible refine W2.o ?_; constructor); · (first | with_reducible assumption | omega | (simp only [lens] <;> omega))) | ((with_reducible refine W3.o ?_; constructor); · (first | with_reducible assumption | omega | (simp only [lens] <;> omega))) | ((with_reducible refine W4.o ?_; constructor); · (first | (with_reducible first | assumption | exact decide_eq_true rfl | exact sEq_self _) | ((with_reducible refine eqOK_i ?_); kernel_rfl) | (first | (exact hb)))) | ((with_reducible refine iteB_f ?_ ?_); · (first | (with_reducible first | assumption | exact decide_eq_true rfl | exact sEq_self _) | ((with_reducible refine eqOK_i ?_); kernel_rfl) | (first | (exact hb)))) | (with_reducible refine CD.wk_au ?_) | (with_reducible refine W5.o ?_; constructor) | ((with_reducible refine W6.o ?_; constructor) <;> intro hB))
    all_goals ((conv => whnf); (try dsimp only); (try simp only [Nat.succ_eq_add_one, Nat.le_eq, castL_self]); (try omega))
    all_goals (try (first | omega | (simp only [lens] <;> omega)))
    all_goals first
     | exact rfl
   ·cases hk : reK (reI s i) (bad || numB s) with
    | true =>
     repeat' ((conv => whnf); first | (with_reducible first | (refine W1.o ?_; constructor) | rfl | exact castL_self _ _) | ((with_reducible refine V.same_t ?_); exact rfl) | ((with_reducible refine andB_room ?_ ?_ ?_); (· kernel_rfl); (· (first | omega | (simp only [lens] <;> omega)))) | ((with_reducible refine W2.o ?_; constructor); · (first | with_reducible assumption | omega | (simp only [lens] <;> omega))) | ((with_reducible refine W3.o ?_; constructor); · (first | with_reducible assumption | omega | (simp only [lens] <;> omega))) | ((with_reducible refine W4.o ?_; constructor); · (first | (with_reducible first | assumption | exact decide_eq_true rfl | exact sEq_self _) | ((with_reducible refine eqOK_i ?_); kernel_rfl) | exact hk | exact hb)) | ((with_reducible refine iteB_f ?_ ?_); · (first | (with_reducible first | assumption | exact decide_eq_true rfl | exact sEq_self _) | ((with_reducible refine eqOK_i ?_); kernel_rfl) | exact hk | exact hb)) | (with_reducible refine CD.wk_au ?_) | (with_reducible refine W5.o ?_; constructor) | ((with_reducible refine W6.o ?_; constructor) <;> intro hB))
     all_goals ((conv => whnf); (try dsimp only); (try simp only [Nat.succ_eq_add_one, Nat.le_eq, castL_self]); (try omega))
     all_goals (try (first | omega | (simp only [lens] <;> omega)))
     all_goals first
      | exact rfl
    | false =>
     repeat' ((conv => whnf); first | (with_reducible first | (refine W1.o ?_; constructor) | rfl | exact castL_self _ _) | ((with_reducible refine V.same_t ?_); exact rfl) | ((with_reducible refine andB_room ?_ ?_ ?_); (· kernel_rfl); (· (first | omega | (simp only [lens] <;> omega)))) | ((with_reducible refine W2.o ?_; constructor); · (first | with_reducible assumption | omega | (simp only [lens] <;> omega))) | ((with_reducible refine W3.o ?_; constructor); · (first | with_reducible assumption | omega | (simp only [lens] <;> omega))) | ((with_reducible refine W4.o ?_; constructor); · (first | (with_reducible first | assumption | exact decide_eq_true rfl | exact sEq_self _) | ((with_reducible refine eqOK_i ?_); kernel_rfl) | exact hk | exact hb)) | ((with_reducible refine iteB_f ?_ ?_); · (first | (with_reducible first | assumption | exact decide_eq_true rfl | exact sEq_self _) | ((with_reducible refine eqOK_i ?_); kernel_rfl) | exact hk | exact hb)) | (with_reducible refine CD.wk_au ?_) | (with_reducible refine W5.o ?_; constructor) | ((with_reducible refine W6.o ?_; constructor) <;> intro hB))
     all_goals ((conv => whnf); (try dsimp only); (try simp only [Nat.succ_eq_add_one, Nat.le_eq, castL_self]); (try omega))
     all_goals (try (first | omega | (simp only [lens] <;> omega)))
     all_goals first
      | exact rfl
 ·have q0 := reI_0 s
  have q1 := reN_0 s
  repeat' ((conv => whnf); first | (with_reducible first | (refine W1.o ?_; constructor) | rfl | exact castL_self _ _) | ((with_reducible refine V.same_t ?_); exact rfl) | ((with_reducible refine andB_room ?_ ?_ ?_); (· kernel_rfl); (· (first | omega | (simp only [lens] <;> omega)))) | ((with_reducible refine W2.o ?_; constructor); · (first | with_reducible assumption | omega | (simp only [lens] <;> omega))) | ((with_reducible refine W3.o ?_; constructor); · (first | with_reducible assumption | omega | (simp only [lens] <;> omega))) | ((with_reducible refine W4.o ?_; constructor); · (first | (with_reducible first | assumption | exact decide_eq_true rfl | exact sEq_self _) | ((with_reducible refine eqOK_i ?_); kernel_rfl))) | ((with_reducible refine iteB_f ?_ ?_); · (first | (with_reducible first | assumption | exact decide_eq_true rfl | exact sEq_self _) | ((with_reducible refine eqOK_i ?_); kernel_rfl))) | (with_reducible refine CD.wk_au ?_) | (with_reducible refine W5.o ?_; constructor) | ((with_reducible refine W6.o ?_; constructor) <;> intro hB))
  all_goals ((conv => whnf); (try dsimp only); (try simp only [Nat.succ_eq_add_one, Nat.le_eq, castL_self]); (try omega))
  all_goals (try (first | omega | (simp only [lens] <;> omega)))
  all_goals first
   | exact rfl
   | omega
   | exact en
   | exact q0.symm
   | exact q1.symm
   | (rw [q1]; exact rfl)
theorem res_pan (s : ByteArray) (bad : Bool) (t : TypeId) (hs : s.size ≤ 1000000) (h : reS s bad = false) : HeapX Try.prog 1 71 [.agg [.ptr 0 0], .fn 72 [.agg [.ptr 0 0]] []] (rdO s bad t) (.pan wrongV) anyR 1 := by
 by_cases hn : numV s ≤ 1073741824
 ·obtain ⟨m, h1, h2, h3⟩ := reS_not s bad h hn
  exact res_bad s bad t hs hn m h1 h2 h3
 ·exact res_big s bad t hs hn
end Go.Proofs.Ytaloolcabmfjbaa
end
