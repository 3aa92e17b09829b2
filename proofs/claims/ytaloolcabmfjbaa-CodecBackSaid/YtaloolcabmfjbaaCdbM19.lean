/-
  Texts of this claim, one behind the other: CdSame CdCutL. Each says its own conditions.
-/
import Derived.Test.YtaloolcabmfjbaaCdbM18
import Derived.Test.YtaloolcabmfjbaaCdbM8

set_option linter.unusedVariables false
set_option linter.unusedSimpArgs false
set_option linter.unusedSectionVars false
section
namespace Go.Proofs.Ytaloolcabmfjbaa
open Go.Sym
set_option linter.unusedVariables false
set_option linter.unusedSimpArgs false
set_option maxRecDepth 100000
set_option maxHeartbeats 4000000
theorem sEq_self (x : ByteArray) : sEq x x = true := decide_eq_true rfl
theorem bEq_self (x : Bool) : (x == x) = true := by cases x <;> rfl
section
variable (k cl nm rv : Int) (sr : Bool) (C : List CmQ) (A B : List OpQ)
noncomputable def sqC (t i : Nat) : CD := ⟨122, [(2, .ptr 0 0), (3, .ptr 1 0), (t, .int .i64 (i : Int))], [], [(0, .cells [.int .i64 k, .int .u64 cl, .int .u64 nm, .bool sr, .lst cmT C false, .lst opT A false, .lst opT B false, .int .u64 rv] 0 false), (1, .cells [.int .i64 k, .int .u64 cl, .int .u64 nm, .bool sr, .lst cmT C false, .lst opT A false, .lst opT B false, .int .u64 rv] 0 false)], 2⟩
theorem sq_l1 (N : Nat) (hl : C.length ≤ 9223372036854775807) : LpD.ok Try.prog N 0 (bodyOf Try.prog 23) ⟨4, [(0, 0), (1, 1)], sqC k cl nm rv sr C A B 5 (0), .leaf (.exit 0) (sqC k cl nm rv sr C A B 5 (C.length))⟩ := by
 refine LpD.ok_one (b := bodyAt Try.prog 23 4) rfl (loop_W noTab_ok (fuel := 4) (d := 5) (X := { i : Nat // i ≤ C.length }) (fun x => sqC k cl nm rv sr C A B 5 (x.1)) (fun x => C.length - x.1)
   (fun _ => .leaf (.exit 0) (sqC k cl nm rv sr C A B 5 (C.length))) (fun _ => noLpW) (fun _ => noLp) (fun _ => noLp_ad) (fun _ => noLp_ok _) ?_ ⟨0, Nat.zero_le _⟩)
 rintro ⟨i, hi⟩
 dsimp only
 rcases Nat.lt_or_ge i C.length with hlt | hge
 ·repeat' ((conv => whnf); first | (with_reducible first | (refine W1.o ?_; constructor) | rfl | exact castL_self _ _) | ((with_reducible refine V.same_t ?_); exact rfl) | ((with_reducible refine andB_room ?_ ?_ ?_); (· kernel_rfl); (· (first | omega | (simp only [lens] <;> omega)))) | ((with_reducible refine W2.o ?_; constructor); · (first | (with_reducible assumption) | (first | omega | (simp only [lens] <;> omega)))) | ((with_reducible refine W3.o ?_; constructor); · (first | (with_reducible assumption) | (first | omega | (simp only [lens] <;> omega)))) | ((with_reducible refine W4.o ?_; constructor); · (first | (with_reducible first | assumption | exact decide_eq_true rfl | exact sEq_self _) | ((with_reducible refine eqOK_i ?_); kernel_rfl) | (first | (first | (simp only [sEq_self, bEq_self, eq_self, decide_true, Bool.and_true, Bool.and_self]; done))))) | ((with_reducible refine iteB_f ?_ ?_); · (first | (with_reducible first | assumption | exact decide_eq_true rfl | exact sEq_self _) | ((with_reducible refine eqOK_i ?_); kernel_rfl) | (first | (first | (simp only [sEq_self, bEq_self, eq_self, decide_true, Bool.and_true, Bool.and_self]; done))))) | (refine ⟨⟨i + 1, hlt⟩, ?_, rfl, ?_⟩) | (with_reducible refine CD.wk_au ?_) | (with_reducible refine W5.o ?_; constructor) | ((with_reducible refine W6.o ?_; constructor) <;> intro hB))
  all_goals ((conv => whnf); (try dsimp only); (try simp only [Nat.succ_eq_add_one, Nat.le_eq, castL_self]); (try omega))
  all_goals (try (first | omega | (simp only [lens] <;> omega)))
  all_goals first
   | exact rfl
   | omega
   | trace_state
 ·have he : i = C.length := Nat.le_antisymm hi hge
  subst he
  repeat' ((conv => whnf); first | (with_reducible first | (refine W1.o ?_; constructor) | rfl | exact castL_self _ _) | ((with_reducible refine V.same_t ?_); exact rfl) | ((with_reducible refine andB_room ?_ ?_ ?_); (· kernel_rfl); (· (first | omega | (simp only [lens] <;> omega)))) | ((with_reducible refine W2.o ?_; constructor); · (first | (with_reducible assumption) | (first | omega | (simp only [lens] <;> omega)))) | ((with_reducible refine W3.o ?_; constructor); · (first | (with_reducible assumption) | (first | omega | (simp only [lens] <;> omega)))) | ((with_reducible refine W4.o ?_; constructor); · (first | (with_reducible first | assumption | exact decide_eq_true rfl | exact sEq_self _) | ((with_reducible refine eqOK_i ?_); kernel_rfl))) | ((with_reducible refine iteB_f ?_ ?_); · (first | (with_reducible first | assumption | exact decide_eq_true rfl | exact sEq_self _) | ((with_reducible refine eqOK_i ?_); kernel_rfl))) | (with_reducible refine CD.wk_au ?_) | (with_reducible refine W5.o ?_; constructor) | ((with_reducible refine W6.o ?_; constructor) <;> intro hB))
  all_goals ((conv => whnf); (try dsimp only); (try simp only [Nat.succ_eq_add_one, Nat.le_eq, castL_self]); (try omega))
  all_goals (try (first | omega | (simp only [lens] <;> omega)))
  all_goals first
   | exact rfl
   | trace_state
theorem sq_l2 (N : Nat) (hl : A.length ≤ 9223372036854775807) : LpD.ok Try.prog N 0 (bodyOf Try.prog 23) ⟨9, [(0, 0), (1, 1)], sqC k cl nm rv sr C A B 6 (0), .leaf (.exit 2) (sqC k cl nm rv sr C A B 6 (A.length))⟩ := by
 refine LpD.ok_one (b := bodyAt Try.prog 23 9) rfl (loop_W noTab_ok (fuel := 4) (d := 5) (X := { i : Nat // i ≤ A.length }) (fun x => sqC k cl nm rv sr C A B 6 (x.1)) (fun x => A.length - x.1)
   (fun _ => .leaf (.exit 2) (sqC k cl nm rv sr C A B 6 (A.length))) (fun _ => noLpW) (fun _ => noLp) (fun _ => noLp_ad) (fun _ => noLp_ok _) ?_ ⟨0, Nat.zero_le _⟩)
 rintro ⟨i, hi⟩
 dsimp only
 rcases Nat.lt_or_ge i A.length with hlt | hge
 ·repeat' ((conv => whnf); first | (with_reducible first | (refine W1.o ?_; constructor) | rfl | exact castL_self _ _) | ((with_reducible refine V.same_t ?_); exact rfl) | ((with_reducible refine andB_room ?_ ?_ ?_); (· kernel_rfl); (· (first | omega | (simp only [lens] <;> omega)))) | ((with_reducible refine W2.o ?_; constructor); · (first | (with_reducible assumption) | (first | omega | (simp only [lens] <;> omega)))) | ((with_reducible refine W3.o ?_; constructor); · (first | (with_reducible assumption) | (first | omega | (simp only [lens] <;> omega)))) | ((with_reducible refine W4.o ?_; constructor); · (first | (with_reducible first | assumption | exact decide_eq_true rfl | exact sEq_self _) | ((with_reducible refine eqOK_i ?_); kernel_rfl) | (first | (first | (simp only [sEq_self, bEq_self, eq_self, decide_true, Bool.and_true, Bool.and_self]; done))))) | ((with_reducible refine iteB_f ?_ ?_); · (first | (with_reducible first | assumption | exact decide_eq_true rfl | exact sEq_self _) | ((with_reducible refine eqOK_i ?_); kernel_rfl) | (first | (first | (simp only [sEq_self, bEq_self, eq_self, decide_true, Bool.and_true, Bool.and_self]; done))))) | (refine ⟨⟨i + 1, hlt⟩, ?_, rfl, ?_⟩) | (with_reducible refine CD.wk_au ?_) | (with_reducible refine W5.o ?_; constructor) | ((with_reducible refine W6.o ?_; constructor) <;> intro hB))
  all_goals ((conv => whnf); (try dsimp only); (try simp only [Nat.succ_eq_add_one, Nat.le_eq, castL_self]); (try omega))
  all_goals (try (first | omega | (simp only [lens] <;> omega)))
  all_goals first
   | exact rfl
   | omega
   | trace_state
 ·have he : i = A.length := Nat.le_antisymm hi hge
  subst he
  repeat' ((conv => whnf); first | (with_reducible first | (refine W1.o ?_; constructor) | rfl | exact castL_self _ _) | ((with_reducible refine V.same_t ?_); exact rfl) | ((with_reducible refine andB_room ?_ ?_ ?_); (· kernel_rfl); (· (first | omega | (simp only [lens] <;> omega)))) | ((with_reducible refine W2.o ?_; constructor); · (first | (with_reducible assumption) | (first | omega | (simp only [lens] <;> omega)))) | ((with_reducible refine W3.o ?_; constructor); · (first | (with_reducible assumption) | (first | omega | (simp only [lens] <;> omega)))) | ((with_reducible refine W4.o ?_; constructor); · (first | (with_reducible first | assumption | exact decide_eq_true rfl | exact sEq_self _) | ((with_reducible refine eqOK_i ?_); kernel_rfl))) | ((with_reducible refine iteB_f ?_ ?_); · (first | (with_reducible first | assumption | exact decide_eq_true rfl | exact sEq_self _) | ((with_reducible refine eqOK_i ?_); kernel_rfl))) | (with_reducible refine CD.wk_au ?_) | (with_reducible refine W5.o ?_; constructor) | ((with_reducible refine W6.o ?_; constructor) <;> intro hB))
  all_goals ((conv => whnf); (try dsimp only); (try simp only [Nat.succ_eq_add_one, Nat.le_eq, castL_self]); (try omega))
  all_goals (try (first | omega | (simp only [lens] <;> omega)))
  all_goals first
   | exact rfl
   | trace_state
theorem sq_l3 (N : Nat) (hl : B.length ≤ 9223372036854775807) : LpD.ok Try.prog N 0 (bodyOf Try.prog 23) ⟨14, [(0, 0), (1, 1)], sqC k cl nm rv sr C A B 7 (0), .leaf (.exit 4) (sqC k cl nm rv sr C A B 7 (B.length))⟩ := by
 refine LpD.ok_one (b := bodyAt Try.prog 23 14) rfl (loop_W noTab_ok (fuel := 4) (d := 5) (X := { i : Nat // i ≤ B.length }) (fun x => sqC k cl nm rv sr C A B 7 (x.1)) (fun x => B.length - x.1)
   (fun _ => .leaf (.exit 4) (sqC k cl nm rv sr C A B 7 (B.length))) (fun _ => noLpW) (fun _ => noLp) (fun _ => noLp_ad) (fun _ => noLp_ok _) ?_ ⟨0, Nat.zero_le _⟩)
 rintro ⟨i, hi⟩
 dsimp only
 rcases Nat.lt_or_ge i B.length with hlt | hge
 ·repeat' ((conv => whnf); first | (with_reducible first | (refine W1.o ?_; constructor) | rfl | exact castL_self _ _) | ((with_reducible refine V.same_t ?_); exact rfl) | ((with_reducible refine andB_room ?_ ?_ ?_); (· kernel_rfl); (· (first | omega | (simp only [lens] <;> omega)))) | ((with_reducible refine W2.o ?_; constructor); · (first | (with_reducible assumption) | (first | omega | (simp only [lens] <;> omega)))) | ((with_reducible refine W3.o ?_; constructor); · (first | (with_reducible assumption) | (first | omega | (simp only [lens] <;> omega)))) | ((with_reducible refine W4.o ?_; constructor); · (first | (with_reducible first | assumption | exact decide_eq_true rfl | exact sEq_self _) | ((with_reducible refine eqOK_i ?_); kernel_rfl) | (first | (first | (simp only [sEq_self, bEq_self, eq_self, decide_true, Bool.and_true, Bool.and_self]; done))))) | ((with_reducible refine iteB_f ?_ ?_); · (first | (with_reducible first | assumption | exact decide_eq_true rfl | exact sEq_self _) | ((with_reducible refine eqOK_i ?_); kernel_rfl) | (first | (first | (simp only [sEq_self, bEq_self, eq_self, decide_true, Bool.and_true, Bool.and_self]; done))))) | (refine ⟨⟨i + 1, hlt⟩, ?_, rfl, ?_⟩) | (with_reducible refine CD.wk_au ?_) | (with_reducible refine W5.o ?_; constructor) | ((with_reducible refine W6.o ?_; constructor) <;> intro hB))
  all_goals ((conv => whnf); (try dsimp only); (try simp only [Nat.succ_eq_add_one, Nat.le_eq, castL_self]); (try omega))
  all_goals (try (first | omega | (simp only [lens] <;> omega)))
  all_goals first
   | exact rfl
   | omega
   | trace_state
 ·have he : i = B.length := Nat.le_antisymm hi hge
  subst he
  repeat' ((conv => whnf); first | (with_reducible first | (refine W1.o ?_; constructor) | rfl | exact castL_self _ _) | ((with_reducible refine V.same_t ?_); exact rfl) | ((with_reducible refine andB_room ?_ ?_ ?_); (· kernel_rfl); (· (first | omega | (simp only [lens] <;> omega)))) | ((with_reducible refine W2.o ?_; constructor); · (first | (with_reducible assumption) | (first | omega | (simp only [lens] <;> omega)))) | ((with_reducible refine W3.o ?_; constructor); · (first | (with_reducible assumption) | (first | omega | (simp only [lens] <;> omega)))) | ((with_reducible refine W4.o ?_; constructor); · (first | (with_reducible first | assumption | exact decide_eq_true rfl | exact sEq_self _) | ((with_reducible refine eqOK_i ?_); kernel_rfl))) | ((with_reducible refine iteB_f ?_ ?_); · (first | (with_reducible first | assumption | exact decide_eq_true rfl | exact sEq_self _) | ((with_reducible refine eqOK_i ?_); kernel_rfl))) | (with_reducible refine CD.wk_au ?_) | (with_reducible refine W5.o ?_; constructor) | ((with_reducible refine W6.o ?_; constructor) <;> intro hB))
  all_goals ((conv => whnf); (try dsimp only); (try simp only [Nat.succ_eq_add_one, Nat.le_eq, castL_self]); (try omega))
  all_goals (try (first | omega | (simp only [lens] <;> omega)))
  all_goals first
   | exact rfl
   | trace_state
theorem sameReq_at (lC : C.length ≤ 9223372036854775807) (lA : A.length ≤ 9223372036854775807) (lB : B.length ≤ 9223372036854775807) : PureAt Try.prog 23 [(.agg [.int .i64 k, .int .u64 cl, .int .u64 nm, .bool sr, .lst cmT C false, .lst opT A false, .lst opT B false, .int .u64 rv]), (.agg [.int .i64 k, .int .u64 cl, .int .u64 nm, .bool sr, .lst cmT C false, .lst opT A false, .lst opT B false, .int .u64 rv])] (.bool true) := by
 refine pure_of_loops noTab_ok (fuel := 4) (d := 5) [⟨4, [(0, 0), (1, 1)], sqC k cl nm rv sr C A B 5 0, .leaf (.exit 0) (sqC k cl nm rv sr C A B 5 C.length)⟩, ⟨9, [(0, 0), (1, 1)], sqC k cl nm rv sr C A B 6 0, .leaf (.exit 2) (sqC k cl nm rv sr C A B 6 A.length)⟩, ⟨14, [(0, 0), (1, 1)], sqC k cl nm rv sr C A B 7 0, .leaf (.exit 4) (sqC k cl nm rv sr C A B 7 B.length)⟩] (fun N y hy => ?_) ?_
 ·rcases List.mem_cons.1 hy with e | hy
  ·rw [e]; exact sq_l1 k cl nm rv sr C A B N lC
  ·rcases List.mem_cons.1 hy with e | hy
   ·rw [e]; exact sq_l2 k cl nm rv sr C A B N lA
   ·rw [List.mem_singleton.1 hy]; exact sq_l3 k cl nm rv sr C A B N lB
 ·repeat' ((conv => whnf); first | (with_reducible first | (refine W1.o ?_; constructor) | rfl | exact castL_self _ _) | ((with_reducible refine V.same_t ?_); exact rfl) | ((with_reducible refine andB_room ?_ ?_ ?_); (· kernel_rfl); (· (first | omega | (simp only [lens] <;> omega)))) | ((with_reducible refine W2.o ?_; constructor); · (first | (with_reducible assumption) | (first | omega | (simp only [lens] <;> omega)))) | ((with_reducible refine W3.o ?_; constructor); · (first | (with_reducible assumption) | (first | omega | (simp only [lens] <;> omega)))) | ((with_reducible refine W4.o ?_; constructor); · (first | (with_reducible first | assumption | exact decide_eq_true rfl | exact sEq_self _) | ((with_reducible refine eqOK_i ?_); kernel_rfl) | (first | (first | (simp only [sEq_self, bEq_self, eq_self, decide_true, Bool.and_true, Bool.and_self]; done))))) | ((with_reducible refine iteB_f ?_ ?_); · (first | (with_reducible first | assumption | exact decide_eq_true rfl | exact sEq_self _) | ((with_reducible refine eqOK_i ?_); kernel_rfl) | (first | (first | (simp only [sEq_self, bEq_self, eq_self, decide_true, Bool.and_true, Bool.and_self]; done))))) | (with_reducible refine CD.wk_au ?_) | (with_reducible refine W5.o ?_; constructor) | ((with_reducible refine W6.o ?_; constructor) <;> intro hB))
  all_goals ((conv => whnf); (try dsimp only); (try simp only [Nat.succ_eq_add_one, Nat.le_eq, castL_self]); (try omega))
  all_goals (try (first | omega | (simp only [lens] <;> omega)))
  all_goals first
   | exact rfl
   | trace_state
end
noncomputable def rqO (v : V) : Option RqT := match v with
 | .agg [.int .i64 k, .int .u64 cl, .int .u64 nm, .bool sr, c, a, b, .int .u64 rv] => (match ofLst cmT c, ofLst opT a, ofLst opT b with
   | some C, some A, some B => some (k, cl, nm, sr, C, A, B, rv)
   | _, _, _ => none)
 | _ => none
theorem rqO_rel {v : V} {q : RqT} (h : rqO v = some q) (ρ : Env) : ∀ X, VRel ρ v X → VRel ρ (rqG q) X := by
 unfold rqO at h
 split at h
 ·split at h
  ·rename_i h1 h2 h3
   cases h
   exact agg_of (LRel.cons_of (fun _ h => h) (LRel.cons_of (fun _ h => h) (LRel.cons_of (fun _ h => h) (LRel.cons_of (fun _ h => h) (LRel.cons_of (fun _ h => ofLst_rel h1 h) (LRel.cons_of (fun _ h => ofLst_rel h2 h) (LRel.cons_of (fun _ h => ofLst_rel h3 h) fun _ h => h)))))))
  ·cases h
 ·cases h
open Classical in
noncomputable def sameQ : RqT → RqT → Bool := hide fun p q => decide (p = q ∧ p.2.2.2.2.1.length ≤ 9223372036854775807 ∧ p.2.2.2.2.2.1.length ≤ 9223372036854775807 ∧ p.2.2.2.2.2.2.1.length ≤ 9223372036854775807)
open Classical in
theorem sameQ_iff (p q : RqT) : sameQ p q = true ↔ (p = q ∧ p.2.2.2.2.1.length ≤ 9223372036854775807 ∧ p.2.2.2.2.2.1.length ≤ 9223372036854775807 ∧ p.2.2.2.2.2.2.1.length ≤ 9223372036854775807) := by unfold sameQ; rw [hide_eq]; exact ⟨fun h => of_decide_eq_true h, fun h => decide_eq_true h⟩
noncomputable def sqF (args : List V) : Option (List Bool × V) := match args with
 | [x, y] => (match rqO x, rqO y with
   | some p, some q => some ([sameQ p q], .bool true)
   | _, _ => none)
 | _ => none
theorem sqF_ok (args : List V) (c : List Bool) (v : V) (h : sqF args = some (c, v)) (hc : allB c) : PureAt Try.prog 23 args v := by
 unfold sqF at h
 split at h
 ·split at h
  ·rename_i x y p q h1 h2
   cases h
   obtain ⟨rfl, l1, l2, l3⟩ := (sameQ_iff p q).1 hc.1
   exact (sameReq_at p.1 p.2.1 p.2.2.1 p.2.2.2.2.2.2.2 p.2.2.2.1 p.2.2.2.2.1 p.2.2.2.2.2.1 p.2.2.2.2.2.2.1 l1 l2 l3).weak fun φ X hX => LRel.cons_of (rqO_rel h1 _) (LRel.cons_of (rqO_rel h2 _) fun _ h => h) X hX
  ·cases h
 ·cases h
section
variable (K : List KvQ)
noncomputable def skC (i : Nat) : CD := ⟨26, [(0, .lst kvT K false), (1, .lst kvT K false), (5, .int .i64 (i : Int))], [], [], 0⟩
theorem sk_l (N : Nat) (hl : K.length ≤ 9223372036854775807) : LpD.ok Try.prog N 0 (bodyOf Try.prog 96) ⟨4, [], skC K (0), .leaf (.exit 0) (skC K (K.length))⟩ := by
 refine LpD.ok_one (b := bodyAt Try.prog 96 4) rfl (loop_W noTab_ok (fuel := 4) (d := 5) (X := { i : Nat // i ≤ K.length }) (fun x => skC K (x.1)) (fun x => K.length - x.1)
   (fun _ => .leaf (.exit 0) (skC K (K.length))) (fun _ => noLpW) (fun _ => noLp) (fun _ => noLp_ad) (fun _ => noLp_ok _) ?_ ⟨0, Nat.zero_le _⟩)
 rintro ⟨i, hi⟩
 dsimp only
 rcases Nat.lt_or_ge i K.length with hlt | hge
 ·repeat' ((conv => whnf); first | (with_reducible first | (refine W1.o ?_; constructor) | rfl | exact castL_self _ _) | ((with_reducible refine V.same_t ?_); exact rfl) | ((with_reducible refine andB_room ?_ ?_ ?_); (· kernel_rfl); (· (first | omega | (simp only [lens] <;> omega)))) | ((with_reducible refine W2.o ?_; constructor); · (first | (with_reducible assumption) | (first | omega | (simp only [lens] <;> omega)))) | ((with_reducible refine W3.o ?_; constructor); · (first | (with_reducible assumption) | (first | omega | (simp only [lens] <;> omega)))) | ((with_reducible refine W4.o ?_; constructor); · (first | (with_reducible first | assumption | exact decide_eq_true rfl | exact sEq_self _) | ((with_reducible refine eqOK_i ?_); kernel_rfl) | (first | (first | (simp only [sEq_self, bEq_self, eq_self, decide_true, Bool.and_true, Bool.and_self]; done))))) | ((with_reducible refine iteB_f ?_ ?_); · (first | (with_reducible first | assumption | exact decide_eq_true rfl | exact sEq_self _) | ((with_reducible refine eqOK_i ?_); kernel_rfl) | (first | (first | (simp only [sEq_self, bEq_self, eq_self, decide_true, Bool.and_true, Bool.and_self]; done))))) | (refine ⟨⟨i + 1, hlt⟩, ?_, rfl, ?_⟩) | (with_reducible refine CD.wk_au ?_) | (with_reducible refine W5.o ?_; constructor) | ((with_reducible refine W6.o ?_; constructor) <;> intro hB))
  all_goals ((conv => whnf); (try dsimp only); (try simp only [Nat.succ_eq_add_one, Nat.le_eq, castL_self]); (try omega))
  all_goals (try (first | omega | (simp only [lens] <;> omega)))
  all_goals first
   | exact rfl
   | omega
   | trace_state
 ·have he : i = K.length := Nat.le_antisymm hi hge
  subst he
  repeat' ((conv => whnf); first | (with_reducible first | (refine W1.o ?_; constructor) | rfl | exact castL_self _ _) | ((with_reducible refine V.same_t ?_); exact rfl) | ((with_reducible refine andB_room ?_ ?_ ?_); (· kernel_rfl); (· (first | omega | (simp only [lens] <;> omega)))) | ((with_reducible refine W2.o ?_; constructor); · (first | (with_reducible assumption) | (first | omega | (simp only [lens] <;> omega)))) | ((with_reducible refine W3.o ?_; constructor); · (first | (with_reducible assumption) | (first | omega | (simp only [lens] <;> omega)))) | ((with_reducible refine W4.o ?_; constructor); · (first | (with_reducible first | assumption | exact decide_eq_true rfl | exact sEq_self _) | ((with_reducible refine eqOK_i ?_); kernel_rfl))) | ((with_reducible refine iteB_f ?_ ?_); · (first | (with_reducible first | assumption | exact decide_eq_true rfl | exact sEq_self _) | ((with_reducible refine eqOK_i ?_); kernel_rfl))) | (with_reducible refine CD.wk_au ?_) | (with_reducible refine W5.o ?_; constructor) | ((with_reducible refine W6.o ?_; constructor) <;> intro hB))
  all_goals ((conv => whnf); (try dsimp only); (try simp only [Nat.succ_eq_add_one, Nat.le_eq, castL_self]); (try omega))
  all_goals (try (first | omega | (simp only [lens] <;> omega)))
  all_goals first
   | exact rfl
   | trace_state
theorem sameKVs_at (lK : K.length ≤ 9223372036854775807) : PureAt Try.prog 96 [.lst kvT K false, .lst kvT K false] (.bool true) := by
 refine pure_of_loops noTab_ok (fuel := 4) (d := 5) [⟨4, [], skC K 0, .leaf (.exit 0) (skC K K.length)⟩] (fun N y hy => by rw [List.mem_singleton.1 hy]; exact sk_l K N lK) ?_
 repeat' ((conv => whnf); first | (with_reducible first | (refine W1.o ?_; constructor) | rfl | exact castL_self _ _) | ((with_reducible refine V.same_t ?_); exact rfl) | ((with_reducible refine andB_room ?_ ?_ ?_); (· kernel_rfl); (· (first | omega | (simp only [lens] <;> omega)))) | ((with_reducible refine W2.o ?_; constructor); · (first | (with_reducible assumption) | (first | omega | (simp only [lens] <;> omega)))) | ((with_reducible refine W3.o ?_; constructor); · (first | (with_reducible assumption) | (first | omega | (simp only [lens] <;> omega)))) | ((with_reducible refine W4.o ?_; constructor); · (first | (with_reducible first | assumption | exact decide_eq_true rfl | exact sEq_self _) | ((with_reducible refine eqOK_i ?_); kernel_rfl) | (first | (first | (simp only [sEq_self, bEq_self, eq_self, decide_true, Bool.and_true, Bool.and_self]; done))))) | ((with_reducible refine iteB_f ?_ ?_); · (first | (with_reducible first | assumption | exact decide_eq_true rfl | exact sEq_self _) | ((with_reducible refine eqOK_i ?_); kernel_rfl) | (first | (first | (simp only [sEq_self, bEq_self, eq_self, decide_true, Bool.and_true, Bool.and_self]; done))))) | (with_reducible refine CD.wk_au ?_) | (with_reducible refine W5.o ?_; constructor) | ((with_reducible refine W6.o ?_; constructor) <;> intro hB))
 all_goals ((conv => whnf); (try dsimp only); (try simp only [Nat.succ_eq_add_one, Nat.le_eq, castL_self]); (try omega))
 all_goals (try (first | omega | (simp only [lens] <;> omega)))
 all_goals first
  | exact rfl
  | trace_state
end
open Classical in
noncomputable def sameK : List KvQ → List KvQ → Bool := hide fun p q => decide (p = q ∧ p.length ≤ 9223372036854775807)
open Classical in
theorem sameK_iff (p q : List KvQ) : sameK p q = true ↔ (p = q ∧ p.length ≤ 9223372036854775807) := by unfold sameK; rw [hide_eq]; exact ⟨fun h => of_decide_eq_true h, fun h => decide_eq_true h⟩
theorem sameK_of {p : List KvQ} (h : p.length ≤ 9223372036854775807) : sameK p p = true := (sameK_iff p p).2 ⟨rfl, h⟩
noncomputable def skF (args : List V) : Option (List Bool × V) := match args with
 | [x, y] => (match ofLst kvT x, ofLst kvT y with
   | some p, some q => some ([sameK p q], .bool true)
   | _, _ => none)
 | _ => none
theorem skF_ok (args : List V) (c : List Bool) (v : V) (h : skF args = some (c, v)) (hc : allB c) : PureAt Try.prog 96 args v := by
 unfold skF at h
 split at h
 ·split at h
  ·rename_i x y p q h1 h2
   cases h
   obtain ⟨rfl, l1⟩ := (sameK_iff p q).1 hc.1
   exact (sameKVs_at p l1).weak fun φ X hX => LRel.cons_of (fun _ h => ofLst_rel h1 h) (LRel.cons_of (fun _ h => ofLst_rel h2 h) fun _ h => h) X hX
  ·cases h
 ·cases h
noncomputable def tabSk : Tab := oneTab 96 skF noTab
theorem tabSk_ok : TabOK Try.prog tabSk := oneTab_ok skF_ok noTab_ok
section
variable (er rv cm ha ap te ld : Int) (tk : Bool) (R : List ReQ)
noncomputable def srC (i : Nat) : CD := ⟨88, [(2, .ptr 0 0), (3, .ptr 1 0), (5, .int .i64 (i : Int))], [], [(0, .cells [.int .i64 er, .int .u64 rv, .int .u64 cm, .bool tk, .lst reT R false, .int .u32 ha, .int .u64 ap, .int .u64 te, .int .i64 ld] 0 false), (1, .cells [.int .i64 er, .int .u64 rv, .int .u64 cm, .bool tk, .lst reT R false, .int .u32 ha, .int .u64 ap, .int .u64 te, .int .i64 ld] 0 false)], 2⟩
theorem sr_l (N : Nat) (hl : R.length ≤ 9223372036854775807) (hk : ∀ i, i < R.length → sameK (Sym.rowAt reT R i).1 (Sym.rowAt reT R i).1 = true ∧ sameK (Sym.rowAt reT R i).2.2.2.2 (Sym.rowAt reT R i).2.2.2.2 = true) : LpD.ok Try.prog N 0 (bodyOf Try.prog 24) ⟨4, [(0, 0), (1, 1)], srC er rv cm ha ap te ld tk R (0), .leaf (.exit 0) (srC er rv cm ha ap te ld tk R (R.length))⟩ := by
 refine LpD.ok_one (b := bodyAt Try.prog 24 4) rfl (loop_W tabSk_ok (fuel := 4) (d := 5) (X := { i : Nat // i ≤ R.length }) (fun x => srC er rv cm ha ap te ld tk R (x.1)) (fun x => R.length - x.1)
   (fun _ => .leaf (.exit 0) (srC er rv cm ha ap te ld tk R (R.length))) (fun _ => noLpW) (fun _ => noLp) (fun _ => noLp_ad) (fun _ => noLp_ok _) ?_ ⟨0, Nat.zero_le _⟩)
 rintro ⟨i, hi⟩
 dsimp only
 rcases Nat.lt_or_ge i R.length with hlt | hge
 ·have hk1 : sameK (Sym.rowAt reT R (Int.toNat (i : Int))).1 (Sym.rowAt reT R (Int.toNat (i : Int))).1 = true := (hk i hlt).1
  have hk2 : sameK (Sym.rowAt reT R (Int.toNat (i : Int))).2.2.2.2 (Sym.rowAt reT R (Int.toNat (i : Int))).2.2.2.2 = true := (hk i hlt).2
  repeat' ((conv => whnf); first | (with_reducible first | (refine W1.o ?_; constructor) | rfl | exact castL_self _ _) | ((with_reducible refine V.same_t ?_); exact rfl) | ((with_reducible refine andB_room ?_ ?_ ?_); (· kernel_rfl); (· (first | omega | (simp only [lens] <;> omega)))) | ((with_reducible refine W2.o ?_; constructor); · (first | (with_reducible assumption) | (first | omega | (simp only [lens] <;> omega)))) | ((with_reducible refine W3.o ?_; constructor); · (first | (with_reducible assumption) | (first | omega | (simp only [lens] <;> omega)))) | ((with_reducible refine W4.o ?_; constructor); · (first | (with_reducible first | assumption | exact decide_eq_true rfl | exact sEq_self _) | ((with_reducible refine eqOK_i ?_); kernel_rfl) | (first | (first | exact hk1 | exact hk2 | (simp only [sEq_self, bEq_self, eq_self, decide_true, Bool.and_true, Bool.and_self]; done))))) | ((with_reducible refine iteB_f ?_ ?_); · (first | (with_reducible first | assumption | exact decide_eq_true rfl | exact sEq_self _) | ((with_reducible refine eqOK_i ?_); kernel_rfl) | (first | (first | exact hk1 | exact hk2 | (simp only [sEq_self, bEq_self, eq_self, decide_true, Bool.and_true, Bool.and_self]; done))))) | (refine ⟨⟨i + 1, hlt⟩, ?_, rfl, ?_⟩) | (with_reducible refine CD.wk_au ?_) | (with_reducible refine W5.o ?_; constructor) | ((with_reducible refine W6.o ?_; constructor) <;> intro hB))
  all_goals ((conv => whnf); (try dsimp only); (try simp only [Nat.succ_eq_add_one, Nat.le_eq, castL_self]); (try omega))
  all_goals (try (first | omega | (simp only [lens] <;> omega)))
  all_goals first
   | exact rfl
   | omega
   | trace_state
 ·have he : i = R.length := Nat.le_antisymm hi hge
  subst he
  repeat' ((conv => whnf); first | (with_reducible first | (refine W1.o ?_; constructor) | rfl | exact castL_self _ _) | ((with_reducible refine V.same_t ?_); exact rfl) | ((with_reducible refine andB_room ?_ ?_ ?_); (· kernel_rfl); (· (first | omega | (simp only [lens] <;> omega)))) | ((with_reducible refine W2.o ?_; constructor); · (first | (with_reducible assumption) | (first | omega | (simp only [lens] <;> omega)))) | ((with_reducible refine W3.o ?_; constructor); · (first | (with_reducible assumption) | (first | omega | (simp only [lens] <;> omega)))) | ((with_reducible refine W4.o ?_; constructor); · (first | (with_reducible first | assumption | exact decide_eq_true rfl | exact sEq_self _) | ((with_reducible refine eqOK_i ?_); kernel_rfl))) | ((with_reducible refine iteB_f ?_ ?_); · (first | (with_reducible first | assumption | exact decide_eq_true rfl | exact sEq_self _) | ((with_reducible refine eqOK_i ?_); kernel_rfl))) | (with_reducible refine CD.wk_au ?_) | (with_reducible refine W5.o ?_; constructor) | ((with_reducible refine W6.o ?_; constructor) <;> intro hB))
  all_goals ((conv => whnf); (try dsimp only); (try simp only [Nat.succ_eq_add_one, Nat.le_eq, castL_self]); (try omega))
  all_goals (try (first | omega | (simp only [lens] <;> omega)))
  all_goals first
   | exact rfl
   | trace_state
theorem same_at (lR : R.length ≤ 9223372036854775807) (hk : ∀ i, i < R.length → sameK (Sym.rowAt reT R i).1 (Sym.rowAt reT R i).1 = true ∧ sameK (Sym.rowAt reT R i).2.2.2.2 (Sym.rowAt reT R i).2.2.2.2 = true) : PureAt Try.prog 24 [(.agg [.int .i64 er, .int .u64 rv, .int .u64 cm, .bool tk, .lst reT R false, .int .u32 ha, .int .u64 ap, .int .u64 te, .int .i64 ld]), (.agg [.int .i64 er, .int .u64 rv, .int .u64 cm, .bool tk, .lst reT R false, .int .u32 ha, .int .u64 ap, .int .u64 te, .int .i64 ld])] (.bool true) := by
 refine pure_of_loops tabSk_ok (fuel := 4) (d := 5) [⟨4, [(0, 0), (1, 1)], srC er rv cm ha ap te ld tk R 0, .leaf (.exit 0) (srC er rv cm ha ap te ld tk R R.length)⟩] (fun N y hy => by rw [List.mem_singleton.1 hy]; exact sr_l er rv cm ha ap te ld tk R N lR hk) ?_
 repeat' ((conv => whnf); first | (with_reducible first | (refine W1.o ?_; constructor) | rfl | exact castL_self _ _) | ((with_reducible refine V.same_t ?_); exact rfl) | ((with_reducible refine andB_room ?_ ?_ ?_); (· kernel_rfl); (· (first | omega | (simp only [lens] <;> omega)))) | ((with_reducible refine W2.o ?_; constructor); · (first | (with_reducible assumption) | (first | omega | (simp only [lens] <;> omega)))) | ((with_reducible refine W3.o ?_; constructor); · (first | (with_reducible assumption) | (first | omega | (simp only [lens] <;> omega)))) | ((with_reducible refine W4.o ?_; constructor); · (first | (with_reducible first | assumption | exact decide_eq_true rfl | exact sEq_self _) | ((with_reducible refine eqOK_i ?_); kernel_rfl) | (first | (first | (simp only [sEq_self, bEq_self, eq_self, decide_true, Bool.and_true, Bool.and_self]; done))))) | ((with_reducible refine iteB_f ?_ ?_); · (first | (with_reducible first | assumption | exact decide_eq_true rfl | exact sEq_self _) | ((with_reducible refine eqOK_i ?_); kernel_rfl) | (first | (first | (simp only [sEq_self, bEq_self, eq_self, decide_true, Bool.and_true, Bool.and_self]; done))))) | (with_reducible refine CD.wk_au ?_) | (with_reducible refine W5.o ?_; constructor) | ((with_reducible refine W6.o ?_; constructor) <;> intro hB))
 all_goals ((conv => whnf); (try dsimp only); (try simp only [Nat.succ_eq_add_one, Nat.le_eq, castL_self]); (try omega))
 all_goals (try (first | omega | (simp only [lens] <;> omega)))
 all_goals first
  | exact rfl
  | trace_state
end
noncomputable def rpO (v : V) : Option RpT := match v with
 | .agg [.int .i64 er, .int .u64 rv, .int .u64 cm, .bool tk, r, .int .u32 ha, .int .u64 ap, .int .u64 te, .int .i64 ld] => (match ofLst reT r with
   | some R => some (er, rv, cm, tk, R, ha, ap, te, ld)
   | none => none)
 | _ => none
theorem rpO_rel {v : V} {q : RpT} (h : rpO v = some q) (ρ : Env) : ∀ X, VRel ρ v X → VRel ρ (rpG q) X := by
 unfold rpO at h
 split at h
 ·split at h
  ·rename_i h1
   cases h
   exact agg_of (LRel.cons_of (fun _ h => h) (LRel.cons_of (fun _ h => h) (LRel.cons_of (fun _ h => h) (LRel.cons_of (fun _ h => h) (LRel.cons_of (fun _ h => ofLst_rel h1 h) fun _ h => h)))))
  ·cases h
 ·cases h
open Classical in
noncomputable def sameP : RpT → RpT → Bool := hide fun p q => decide (p = q ∧ p.2.2.2.2.1.length ≤ 9223372036854775807 ∧ ∀ i, i < p.2.2.2.2.1.length → sameK (Sym.rowAt reT p.2.2.2.2.1 i).1 (Sym.rowAt reT p.2.2.2.2.1 i).1 = true ∧ sameK (Sym.rowAt reT p.2.2.2.2.1 i).2.2.2.2 (Sym.rowAt reT p.2.2.2.2.1 i).2.2.2.2 = true)
open Classical in
theorem sameP_iff (p q : RpT) : sameP p q = true ↔ (p = q ∧ p.2.2.2.2.1.length ≤ 9223372036854775807 ∧ ∀ i, i < p.2.2.2.2.1.length → sameK (Sym.rowAt reT p.2.2.2.2.1 i).1 (Sym.rowAt reT p.2.2.2.2.1 i).1 = true ∧ sameK (Sym.rowAt reT p.2.2.2.2.1 i).2.2.2.2 (Sym.rowAt reT p.2.2.2.2.1 i).2.2.2.2 = true) := by unfold sameP; rw [hide_eq]; exact ⟨fun h => of_decide_eq_true h, fun h => decide_eq_true h⟩
noncomputable def spF (args : List V) : Option (List Bool × V) := match args with
 | [x, y] => (match rpO x, rpO y with
   | some p, some q => some ([sameP p q], .bool true)
   | _, _ => none)
 | _ => none
theorem spF_ok (args : List V) (c : List Bool) (v : V) (h : spF args = some (c, v)) (hc : allB c) : PureAt Try.prog 24 args v := by
 unfold spF at h
 split at h
 ·split at h
  ·rename_i x y p q h1 h2
   cases h
   obtain ⟨rfl, l1, l2⟩ := (sameP_iff p q).1 hc.1
   exact (same_at p.1 p.2.1 p.2.2.1 p.2.2.2.2.2.1 p.2.2.2.2.2.2.1 p.2.2.2.2.2.2.2.1 p.2.2.2.2.2.2.2.2 p.2.2.2.1 p.2.2.2.2.1 l1 l2).weak fun φ X hX => LRel.cons_of (rpO_rel h1 _) (LRel.cons_of (rpO_rel h2 _) fun _ h => h) X hX
  ·cases h
 ·cases h
theorem sameQ_W {p : RqT} (wC : cmW p.2.2.2.2.1 = true) (wA : opW p.2.2.2.2.2.1 = true) (wB : opW p.2.2.2.2.2.2.1 = true) : sameQ p p = true :=
 (sameQ_iff p p).2 ⟨rfl, Nat.le_trans ((cmW_iff _).1 wC).1 (by decide), Nat.le_trans ((opW_iff _).1 wA).1 (by decide), Nat.le_trans ((opW_iff _).1 wB).1 (by decide)⟩
theorem sameP_W {p : RpT} (wR : reW p.2.2.2.2.1 = true) : sameP p p = true :=
 (sameP_iff p p).2 ⟨rfl, Nat.le_trans ((reW_iff _).1 wR).1 (by decide), fun i hi => ⟨sameK_of (Nat.le_trans ((kvW_iff _).1 (((reW_iff _).1 wR).2 i hi).1).1 (by decide)), sameK_of (Nat.le_trans ((kvW_iff _).1 (((reW_iff _).1 wR).2 i hi).2).1 (by decide))⟩⟩
end Go.Proofs.Ytaloolcabmfjbaa
end

section
namespace Go.Proofs.Ytaloolcabmfjbaa
open Go.Sym
set_option linter.unusedVariables false
set_option linter.unusedSimpArgs false
set_option maxRecDepth 100000
set_option maxHeartbeats 4000000
noncomputable def cutN : Nat → ByteArray → ByteArray := hide fun n s => cutS s 0 (Int.toNat (min (s.size : Int) (n : Int)))
theorem cutN_eq (n : Nat) (s : ByteArray) : cutN n s = cutS s 0 (Int.toNat (min (s.size : Int) (n : Int))) := by unfold cutN; rw [hide_eq]
theorem cutN_size (n : Nat) (s : ByteArray) : (cutN n s).size ≤ n := by rw [cutN_eq, cutS_size]; omega
section
variable {e : List Ty} (f : rowDen e → rowDen e) (m : Nat)
noncomputable def cuA : List (rowDen e) → Nat → List (rowDen e) := hide fun L i => (List.range i).map fun j => f (Sym.rowAt e L j)
theorem cuA_eq (L : List (rowDen e)) (i : Nat) : cuA f L i = (List.range i).map fun j => f (Sym.rowAt e L j) := by unfold cuA; rw [hide_eq]
theorem cuA_0 (L : List (rowDen e)) : cuA f L 0 = [] := by rw [cuA_eq]; rfl
theorem cuA_succ (L : List (rowDen e)) (i : Nat) : cuA f L (i + 1) = cuA f L i ++ [f (Sym.rowAt e L i)] := by rw [cuA_eq, cuA_eq, List.range_succ, List.map_append]; rfl
theorem cuA_len (L : List (rowDen e)) (i : Nat) : (cuA f L i).length = i := by rw [cuA_eq, List.length_map, List.length_range]
noncomputable def cuZ : List (rowDen e) → List (rowDen e) := hide fun L => cuA f L (min L.length m)
theorem cuZ_eq (L : List (rowDen e)) : cuZ f m L = cuA f L (min L.length m) := by unfold cuZ; rw [hide_eq]
theorem cuZ_len (L : List (rowDen e)) : (cuZ f m L).length = min L.length m := by rw [cuZ_eq, cuA_len]
theorem cuZ_row (L : List (rowDen e)) (i : Nat) (h : i < (cuZ f m L).length) : Sym.rowAt e (cuZ f m L) i = f (Sym.rowAt e L i) := by
 rw [rowAt_lt h]
 have h2 : i < min L.length m := by rw [cuZ_len] at h; exact h
 simp only [cuZ_eq, cuA_eq, List.getElem_map, List.getElem_range]
end
noncomputable def cmU : CmQ → CmQ := hide fun r => match r with
 | (key, w, h, n, val) => (cutN 40 key, w, h, n, cutN 40 val)
theorem cmU_eq (key : ByteArray) (w : Int) (h : Int) (n : Int) (val : ByteArray) : cmU (key, w, h, n, val) = (cutN 40 key, w, h, n, cutN 40 val) := by unfold cmU; rw [hide_eq]
def u6C (r : CmQ) : Prop := u6P r.2.2.2.1
theorem cmU_wf (r : CmQ) (h : u6C r) : wfC (cmU r) := by
 obtain ⟨key, w, h, n, val⟩ := r
 have n3 := h
 rw [cmU_eq]
 exact ⟨Nat.le_trans (cutN_size 40 key) (by decide), n3, Nat.le_trans (cutN_size 40 val) (by decide)⟩
theorem cmU_W (L : List CmQ) (h : ∀ i, i < L.length → u6C (Sym.rowAt cmT L i)) : cmW (cuZ cmU 6 L) = true := by
 rw [cmW_iff]
 have hl := cuZ_len cmU 6 L
 refine ⟨by omega, fun i hi => ?_⟩
 rw [cuZ_row cmU 6 L i hi]
 exact cmU_wf _ (h i (by omega))
noncomputable def opU : OpQ → OpQ := hide fun r => match r with
 | (k, key, en, val, rev, lim, cnt, ks, pv) => (k, cutN 40 key, cutN 40 en, cutN 40 val, rev, lim, cnt, ks, pv)
theorem opU_eq (k : Int) (key : ByteArray) (en : ByteArray) (val : ByteArray) (rev : Int) (lim : Int) (cnt : Bool) (ks : Bool) (pv : Bool) : opU (k, key, en, val, rev, lim, cnt, ks, pv) = (k, cutN 40 key, cutN 40 en, cutN 40 val, rev, lim, cnt, ks, pv) := by unfold opU; rw [hide_eq]
def u6O (r : OpQ) : Prop := u6P r.2.2.2.2.1
theorem opU_wf (r : OpQ) (h : u6O r) : wfO (opU r) := by
 obtain ⟨k, key, en, val, rev, lim, cnt, ks, pv⟩ := r
 have n4 := h
 rw [opU_eq]
 exact ⟨Nat.le_trans (cutN_size 40 key) (by decide), Nat.le_trans (cutN_size 40 en) (by decide), Nat.le_trans (cutN_size 40 val) (by decide), n4⟩
theorem opU_W (L : List OpQ) (h : ∀ i, i < L.length → u6O (Sym.rowAt opT L i)) : opW (cuZ opU 8 L) = true := by
 rw [opW_iff]
 have hl := cuZ_len opU 8 L
 refine ⟨by omega, fun i hi => ?_⟩
 rw [cuZ_row opU 8 L i hi]
 exact opU_wf _ (h i (by omega))
noncomputable def kvU : KvQ → KvQ := hide fun r => match r with
 | (key, val, cr, md, ver) => (cutN 60 key, cutN 60 val, cr, md, ver)
theorem kvU_eq (key : ByteArray) (val : ByteArray) (cr : Int) (md : Int) (ver : Int) : kvU (key, val, cr, md, ver) = (cutN 60 key, cutN 60 val, cr, md, ver) := by unfold kvU; rw [hide_eq]
def u6K (r : KvQ) : Prop := u6P r.2.2.1 ∧ u6P r.2.2.2.1 ∧ u6P r.2.2.2.2
theorem kvU_wf (r : KvQ) (h : u6K r) : wfK (kvU r) := by
 obtain ⟨key, val, cr, md, ver⟩ := r
 obtain ⟨n2, n3, n4⟩ := h
 rw [kvU_eq]
 exact ⟨Nat.le_trans (cutN_size 60 key) (by decide), Nat.le_trans (cutN_size 60 val) (by decide), n2, n3, n4⟩
theorem kvU_W (L : List KvQ) (h : ∀ i, i < L.length → u6K (Sym.rowAt kvT L i)) : kvW (cuZ kvU 10 L) = true := by
 rw [kvW_iff]
 have hl := cuZ_len kvU 10 L
 refine ⟨by omega, fun i hi => ?_⟩
 rw [cuZ_row kvU 10 L i hi]
 exact kvU_wf _ (h i (by omega))
end Go.Proofs.Ytaloolcabmfjbaa
end
