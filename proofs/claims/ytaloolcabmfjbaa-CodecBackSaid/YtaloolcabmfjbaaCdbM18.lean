/-
  Texts of this claim, one behind the other: CdDer CdBk CdWs CdOne. Each says its own conditions.
-/
import Derived.Test.YtaloolcabmfjbaaCdbM10
import Derived.Test.YtaloolcabmfjbaaCdbM17
import Derived.Test.YtaloolcabmfjbaaCdbM8

set_option linter.unusedVariables false
set_option linter.unusedSimpArgs false
set_option linter.unusedSectionVars false
section
namespace Go.Proofs.Ytaloolcabmfjbaa
open Go.Sym
set_option linter.unusedVariables false
set_option linter.unusedSimpArgs false
set_option maxRecDepth 100000
set_option maxHeartbeats 4000000
abbrev RpT : Type := Int × Int × Int × Bool × List ReQ × Int × Int × Int × Int
abbrev rpG (r : RpT) : V := .agg [.int .i64 r.1, .int .u64 r.2.1, .int .u64 r.2.2.1, .bool r.2.2.2.1, .lst reT r.2.2.2.2.1 false, .int .u32 r.2.2.2.2.2.1, .int .u64 r.2.2.2.2.2.2.1, .int .u64 r.2.2.2.2.2.2.2.1, .int .i64 r.2.2.2.2.2.2.2.2]
noncomputable def dp0 (s : ByteArray) : RpT := (numV s, numV (numR s), numV (numR (numR s)), decide (numV (numR (numR (numR s))) = 1), reL (numR (numR (numR (numR (numR (numR (numR (numR s)))))))), numV (numR (numR (numR (numR s)))) % 4294967296, numV (numR (numR (numR (numR (numR s))))), numV (numR (numR (numR (numR (numR (numR s)))))), numV (numR (numR (numR (numR (numR (numR (numR s))))))) - 1)
theorem zero_rp {P : Program} {g : FuncId} {args : List V} {e : Int} (h : PureAt P g args (.tup [.agg [.int .i64 0, .int .u64 0, .int .u64 0, .bool false, .nils, .int .u32 0, .int .u64 0, .int .u64 0, .int .i64 0], .int .i64 e])) : PureAt P g args (.tup [rpG (0, 0, 0, false, [], 0, 0, 0, 0), .int .i64 e]) :=
 PureAt.val h fun φ => tup_of (LRel.cons_of (agg_of (LRel.cons_of (fun _ h => h) (LRel.cons_of (fun _ h => h) (LRel.cons_of (fun _ h => h) (LRel.cons_of (fun _ h => h) (LRel.cons_of (fun _ h => ofLst_rel (e := reT) (a := .nils) rfl h) fun _ h => h)))))) fun _ h => h)
noncomputable def dpK : ByteArray → Bool := hide fun s => leI (numV s) 1073741824 && leI (numV (numR (numR (numR s)))) 1 && leI (numV (numR (numR (numR (numR (numR (numR (numR s)))))))) 1073741824 && reS (numR (numR (numR (numR (numR (numR (numR (numR s)))))))) ((((((((false || numB s) || numB (numR s)) || numB (numR (numR s))) || numB (numR (numR (numR s)))) || numB (numR (numR (numR (numR s))))) || numB (numR (numR (numR (numR (numR s)))))) || numB (numR (numR (numR (numR (numR (numR s))))))) || numB (numR (numR (numR (numR (numR (numR (numR s)))))))) && !(((((((((false || numB s) || numB (numR s)) || numB (numR (numR s))) || numB (numR (numR (numR s)))) || numB (numR (numR (numR (numR s))))) || numB (numR (numR (numR (numR (numR s)))))) || numB (numR (numR (numR (numR (numR (numR s))))))) || numB (numR (numR (numR (numR (numR (numR (numR s)))))))) || numB (numR (numR (numR (numR (numR (numR (numR (numR s))))))))) && sEq (reE (numR (numR (numR (numR (numR (numR (numR (numR s))))))))) ⟨#[]⟩ && maB (numV s) (numV (numR (numR (numR (numR (numR (numR (numR s))))))) - 1) (reL (numR (numR (numR (numR (numR (numR (numR (numR s))))))))) && sEq (rpE (numV s) (numV (numR s)) (numV (numR (numR s))) (decide (numV (numR (numR (numR s))) = 1)) (reL (numR (numR (numR (numR (numR (numR (numR (numR s))))))))) (numV (numR (numR (numR (numR s)))) % 4294967296) (numV (numR (numR (numR (numR (numR s)))))) (numV (numR (numR (numR (numR (numR (numR s))))))) (numV (numR (numR (numR (numR (numR (numR (numR s))))))) - 1)) s
theorem dpK_eq (s : ByteArray) : dpK s = (leI (numV s) 1073741824 && leI (numV (numR (numR (numR s)))) 1 && leI (numV (numR (numR (numR (numR (numR (numR (numR s)))))))) 1073741824 && reS (numR (numR (numR (numR (numR (numR (numR (numR s)))))))) ((((((((false || numB s) || numB (numR s)) || numB (numR (numR s))) || numB (numR (numR (numR s)))) || numB (numR (numR (numR (numR s))))) || numB (numR (numR (numR (numR (numR s)))))) || numB (numR (numR (numR (numR (numR (numR s))))))) || numB (numR (numR (numR (numR (numR (numR (numR s)))))))) && !(((((((((false || numB s) || numB (numR s)) || numB (numR (numR s))) || numB (numR (numR (numR s)))) || numB (numR (numR (numR (numR s))))) || numB (numR (numR (numR (numR (numR s)))))) || numB (numR (numR (numR (numR (numR (numR s))))))) || numB (numR (numR (numR (numR (numR (numR (numR s)))))))) || numB (numR (numR (numR (numR (numR (numR (numR (numR s))))))))) && sEq (reE (numR (numR (numR (numR (numR (numR (numR (numR s))))))))) ⟨#[]⟩ && maB (numV s) (numV (numR (numR (numR (numR (numR (numR (numR s))))))) - 1) (reL (numR (numR (numR (numR (numR (numR (numR (numR s))))))))) && sEq (rpE (numV s) (numV (numR s)) (numV (numR (numR s))) (decide (numV (numR (numR (numR s))) = 1)) (reL (numR (numR (numR (numR (numR (numR (numR (numR s))))))))) (numV (numR (numR (numR (numR s)))) % 4294967296) (numV (numR (numR (numR (numR (numR s)))))) (numV (numR (numR (numR (numR (numR (numR s))))))) (numV (numR (numR (numR (numR (numR (numR (numR s))))))) - 1)) s) := by unfold dpK; rw [hide_eq]
noncomputable def dpV : ByteArray → RpT := hide fun s => bif dpK s then dp0 s else (0, 0, 0, false, [], 0, 0, 0, 0)
theorem dpV_eq (s : ByteArray) : dpV s = bif dpK s then dp0 s else (0, 0, 0, false, [], 0, 0, 0, 0) := by unfold dpV; rw [hide_eq]
noncomputable def dpE : ByteArray → Int := hide fun s => bif dpK s then 0 else 4
theorem dpE_eq (s : ByteArray) : dpE s = bif dpK s then 0 else 4 := by unfold dpE; rw [hide_eq]
noncomputable def erqF : RpF := fun er rv cm tk R ha ap te ld => ([reW R, leI 0 rv, ltI rv 18446744073709551616, leI 0 cm, ltI cm 18446744073709551616, leI 0 ha, ltI ha 4294967296, leI 0 ap, ltI ap 18446744073709551616, leI 0 te, ltI te 18446744073709551616], .tup [.str (rpE er rv cm tk R ha ap te ld), .int .i64 (maE er ld R)])
noncomputable def tabDr : Tab := oneTab 17 (rpF erqF) noTab
theorem tabDr_ok : TabOK Try.prog tabDr := oneTab_ok (rpF_ok fun er rv cm tk R ha ap te ld h => by
    obtain ⟨c0, a1, b1, a2, b2, a3, b3, a4, b4, a5, b5, _⟩ := h
    exact encResp_at er rv cm ha ap te ld tk R c0 ⟨of_leI a1, of_ltI b1⟩ ⟨of_leI a2, of_ltI b2⟩ ⟨of_leI a3, of_ltI b3⟩ ⟨of_leI a4, of_ltI b4⟩ ⟨of_leI a5, of_ltI b5⟩) noTab_ok
noncomputable def htDr : HTab := oneXT 71 1 false (svXF 72 reS (fun s => .lst reT (reL s) false) reE) htS
theorem htDr_ok : HTabOK Try.prog htDr := oneXT_ok (svXF_ok (fun s bad t hs h => res_ret s bad t hs h) fun s bad t hs h => res_pan s bad t hs h) htS_ok
theorem reL_W {s : ByteArray} {b : Bool} (hs : s.size ≤ 1000000) (h : reS s b = true) : reW (reL s) = true := by
 rw [reS_eq, Bool.and_eq_true, List.all_eq_true] at h
 have hg := fun j (hj : j < (numV s).toNat) => h.2 j (List.mem_range.2 hj)
 have hn := reI_size s (b || numB s) (numV s).toNat hg
 rw [reW_iff, reL_eq, reN_len]
 refine ⟨by omega, fun i hi => ?_⟩
 have er : Sym.rowAt reT (reN s (numV s).toNat) i = reV (reI s i) := by
  rw [reN_eq, Sym.rowAt, List.getD_eq_getElem?_getD, List.getElem?_map, List.getElem?_range hi]; rfl
 rw [er, reV_eq]
 have hz := reI_size s (b || numB s) i fun j hj => hg j (by omega)
 have hk := hg i hi
 unfold reD at hk
 rw [Bool.and_eq_true] at hk
 have hk := hk.1
 rw [reK_eq] at hk
 simp only [Bool.and_eq_true] at hk
 obtain ⟨⟨⟨⟨m0, m1⟩, m2⟩, m3⟩, m4⟩ := hk
 have z0 := kvE_size (reI s i) (b || numB s) m0
 have z1 := numR_size (kvE (reI s i))
 have z2 := numR_size (numR (kvE (reI s i)))
 have z3 := numR_size (numR (numR (kvE (reI s i))))
 exact ⟨kvL_W (by omega) m0, kvL_W (by omega) m4⟩
theorem maE_of (er ld : Int) (R : List ReQ) : maE er ld R = bif maB er ld R then 0 else 2 := maE_eq er ld R
theorem decResp_at (s : ByteArray) (hs : s.size ≤ 1000000) : PureAt Try.prog 21 [.str s] (.tup [rpG (dpV s), .int .i64 (dpE s)]) := by
 have y0 := numV_in s
 have z0 := numR_size s
 have y1 := numV_in (numR s)
 have z1 := numR_size (numR s)
 have y2 := numV_in (numR (numR s))
 have z2 := numR_size (numR (numR s))
 have y3 := numV_in (numR (numR (numR s)))
 have z3 := numR_size (numR (numR (numR s)))
 have y4 := numV_in (numR (numR (numR (numR s))))
 have z4 := numR_size (numR (numR (numR (numR s))))
 have y5 := numV_in (numR (numR (numR (numR (numR s)))))
 have z5 := numR_size (numR (numR (numR (numR (numR s)))))
 have y6 := numV_in (numR (numR (numR (numR (numR (numR s))))))
 have z6 := numR_size (numR (numR (numR (numR (numR (numR s))))))
 have y7 := numV_in (numR (numR (numR (numR (numR (numR (numR s)))))))
 have z7 := numR_size (numR (numR (numR (numR (numR (numR (numR s)))))))
 have ec := maE_of (numV s) (numV (numR (numR (numR (numR (numR (numR (numR s))))))) - 1) (reL (numR (numR (numR (numR (numR (numR (numR (numR s)))))))))
 by_cases m0 : numV s ≤ 1073741824
 rotate_left
 ·skip
  have l0 : leI (numV s) 1073741824 = false := by rw [leI_eq]; exact decide_eq_false m0
  have q : dpK s = false := by simp only [dpK_eq, Bool.and_false, Bool.false_and, Bool.true_and, Bool.and_true, Bool.not_true, Bool.not_false, l0]
  have e1 := dpV_eq s
  have e2 := dpE_eq s
  rw [q, cond_false] at e1 e2
  rw [e1, e2]
  refine zero_rp ?_
  refine pure_of_H htDr_ok tabDr_ok (fuel := 5) (d := 7) [] (fun _ _ h => by cases h) ?_
  repeat' ((conv => whnf); first | (with_reducible first | (refine W1.o ?_; constructor) | rfl | exact castL_self _ _) | ((with_reducible refine V.same_t ?_); exact rfl) | ((with_reducible refine andB_room ?_ ?_ ?_); (· kernel_rfl); (· (first | omega | (simp only [lens] <;> omega)))) | ((with_reducible refine W2.o ?_; constructor); · (first | (with_reducible assumption) | (first | omega | (simp only [lens] <;> omega)))) | ((with_reducible refine W3.o ?_; constructor); · (first | (with_reducible assumption) | (first | omega | (simp only [lens] <;> omega)))) | ((with_reducible refine W4.o ?_; constructor); · (first | (with_reducible first | assumption | exact decide_eq_true rfl | exact sEq_self _) | ((with_reducible refine eqOK_i ?_); kernel_rfl) | (first | (first | exact rfl)))) | ((with_reducible refine iteB_f ?_ ?_); · (first | (with_reducible first | assumption | exact decide_eq_true rfl | exact sEq_self _) | ((with_reducible refine eqOK_i ?_); kernel_rfl) | (first | (first | exact rfl)))) | (with_reducible refine CD.wk_au ?_) | (with_reducible refine W5.o ?_; constructor) | ((with_reducible refine W6.o ?_; constructor) <;> intro hB))
  all_goals ((conv => whnf); (try dsimp only); (try simp only [Nat.succ_eq_add_one, Nat.le_eq, castL_self]); (try omega))
  all_goals (try (first | omega | (simp only [lens] <;> omega)))
  all_goals first
   | exact rfl
   | (rw [e1, e2]; done)
   | (rw [e1, e2]; exact rfl)
   | (rw [e1]; exact rfl)
   | exact e2.symm
   | trace_state
 have l0 : leI (numV s) 1073741824 = true := by rw [leI_eq]; exact decide_eq_true m0
 by_cases m1 : numV (numR (numR (numR s))) ≤ 1
 rotate_left
 ·skip
  have l1 : leI (numV (numR (numR (numR s)))) 1 = false := by rw [leI_eq]; exact decide_eq_false m1
  have q : dpK s = false := by simp only [dpK_eq, Bool.and_false, Bool.false_and, Bool.true_and, Bool.and_true, Bool.not_true, Bool.not_false, l0, l1]
  have e1 := dpV_eq s
  have e2 := dpE_eq s
  rw [q, cond_false] at e1 e2
  rw [e1, e2]
  refine zero_rp ?_
  refine pure_of_H htDr_ok tabDr_ok (fuel := 5) (d := 7) [] (fun _ _ h => by cases h) ?_
  repeat' ((conv => whnf); first | (with_reducible first | (refine W1.o ?_; constructor) | rfl | exact castL_self _ _) | ((with_reducible refine V.same_t ?_); exact rfl) | ((with_reducible refine andB_room ?_ ?_ ?_); (· kernel_rfl); (· (first | omega | (simp only [lens] <;> omega)))) | ((with_reducible refine W2.o ?_; constructor); · (first | (with_reducible assumption) | (first | omega | (simp only [lens] <;> omega)))) | ((with_reducible refine W3.o ?_; constructor); · (first | (with_reducible assumption) | (first | omega | (simp only [lens] <;> omega)))) | ((with_reducible refine W4.o ?_; constructor); · (first | (with_reducible first | assumption | exact decide_eq_true rfl | exact sEq_self _) | ((with_reducible refine eqOK_i ?_); kernel_rfl) | (first | (first | exact rfl)))) | ((with_reducible refine iteB_f ?_ ?_); · (first | (with_reducible first | assumption | exact decide_eq_true rfl | exact sEq_self _) | ((with_reducible refine eqOK_i ?_); kernel_rfl) | (first | (first | exact rfl)))) | (with_reducible refine CD.wk_au ?_) | (with_reducible refine W5.o ?_; constructor) | ((with_reducible refine W6.o ?_; constructor) <;> intro hB))
  all_goals ((conv => whnf); (try dsimp only); (try simp only [Nat.succ_eq_add_one, Nat.le_eq, castL_self]); (try omega))
  all_goals (try (first | omega | (simp only [lens] <;> omega)))
  all_goals first
   | exact rfl
   | (rw [e1, e2]; done)
   | (rw [e1, e2]; exact rfl)
   | (rw [e1]; exact rfl)
   | exact e2.symm
   | trace_state
 have l1 : leI (numV (numR (numR (numR s)))) 1 = true := by rw [leI_eq]; exact decide_eq_true m1
 by_cases m2 : numV (numR (numR (numR (numR (numR (numR (numR s))))))) ≤ 1073741824
 rotate_left
 ·skip
  have l2 : leI (numV (numR (numR (numR (numR (numR (numR (numR s)))))))) 1073741824 = false := by rw [leI_eq]; exact decide_eq_false m2
  have q : dpK s = false := by simp only [dpK_eq, Bool.and_false, Bool.false_and, Bool.true_and, Bool.and_true, Bool.not_true, Bool.not_false, l0, l1, l2]
  have e1 := dpV_eq s
  have e2 := dpE_eq s
  rw [q, cond_false] at e1 e2
  rw [e1, e2]
  refine zero_rp ?_
  refine pure_of_H htDr_ok tabDr_ok (fuel := 5) (d := 7) [] (fun _ _ h => by cases h) ?_
  repeat' ((conv => whnf); first | (with_reducible first | (refine W1.o ?_; constructor) | rfl | exact castL_self _ _) | ((with_reducible refine V.same_t ?_); exact rfl) | ((with_reducible refine andB_room ?_ ?_ ?_); (· kernel_rfl); (· (first | omega | (simp only [lens] <;> omega)))) | ((with_reducible refine W2.o ?_; constructor); · (first | (with_reducible assumption) | (first | omega | (simp only [lens] <;> omega)))) | ((with_reducible refine W3.o ?_; constructor); · (first | (with_reducible assumption) | (first | omega | (simp only [lens] <;> omega)))) | ((with_reducible refine W4.o ?_; constructor); · (first | (with_reducible first | assumption | exact decide_eq_true rfl | exact sEq_self _) | ((with_reducible refine eqOK_i ?_); kernel_rfl) | (first | (first | exact rfl)))) | ((with_reducible refine iteB_f ?_ ?_); · (first | (with_reducible first | assumption | exact decide_eq_true rfl | exact sEq_self _) | ((with_reducible refine eqOK_i ?_); kernel_rfl) | (first | (first | exact rfl)))) | (with_reducible refine CD.wk_au ?_) | (with_reducible refine W5.o ?_; constructor) | ((with_reducible refine W6.o ?_; constructor) <;> intro hB))
  all_goals ((conv => whnf); (try dsimp only); (try simp only [Nat.succ_eq_add_one, Nat.le_eq, castL_self]); (try omega))
  all_goals (try (first | omega | (simp only [lens] <;> omega)))
  all_goals first
   | exact rfl
   | (rw [e1, e2]; done)
   | (rw [e1, e2]; exact rfl)
   | (rw [e1]; exact rfl)
   | exact e2.symm
   | trace_state
 have l2 : leI (numV (numR (numR (numR (numR (numR (numR (numR s)))))))) 1073741824 = true := by rw [leI_eq]; exact decide_eq_true m2
 cases m3 : reS (numR (numR (numR (numR (numR (numR (numR (numR s)))))))) ((((((((false || numB s) || numB (numR s)) || numB (numR (numR s))) || numB (numR (numR (numR s)))) || numB (numR (numR (numR (numR s))))) || numB (numR (numR (numR (numR (numR s)))))) || numB (numR (numR (numR (numR (numR (numR s))))))) || numB (numR (numR (numR (numR (numR (numR (numR s)))))))) with
 | false =>
  have q : dpK s = false := by simp only [dpK_eq, Bool.and_false, Bool.false_and, Bool.true_and, Bool.and_true, Bool.not_true, Bool.not_false, l0, l1, l2, m3]
  have e1 := dpV_eq s
  have e2 := dpE_eq s
  rw [q, cond_false] at e1 e2
  rw [e1, e2]
  refine zero_rp ?_
  refine pure_of_H htDr_ok tabDr_ok (fuel := 5) (d := 7) [] (fun _ _ h => by cases h) ?_
  repeat' ((conv => whnf); first | (with_reducible first | (refine W1.o ?_; constructor) | rfl | exact castL_self _ _) | ((with_reducible refine V.same_t ?_); exact rfl) | ((with_reducible refine andB_room ?_ ?_ ?_); (· kernel_rfl); (· (first | omega | (simp only [lens] <;> omega)))) | ((with_reducible refine W2.o ?_; constructor); · (first | (with_reducible assumption) | (first | omega | (simp only [lens] <;> omega)))) | ((with_reducible refine W3.o ?_; constructor); · (first | (with_reducible assumption) | (first | omega | (simp only [lens] <;> omega)))) | ((with_reducible refine W4.o ?_; constructor); · (first | (with_reducible first | assumption | exact decide_eq_true rfl | exact sEq_self _) | ((with_reducible refine eqOK_i ?_); kernel_rfl) | (first | (first | exact rfl | exact m3)))) | ((with_reducible refine iteB_f ?_ ?_); · (first | (with_reducible first | assumption | exact decide_eq_true rfl | exact sEq_self _) | ((with_reducible refine eqOK_i ?_); kernel_rfl) | (first | (first | exact rfl | exact m3)))) | (with_reducible refine CD.wk_au ?_) | (with_reducible refine W5.o ?_; constructor) | ((with_reducible refine W6.o ?_; constructor) <;> intro hB))
  all_goals ((conv => whnf); (try dsimp only); (try simp only [Nat.succ_eq_add_one, Nat.le_eq, castL_self]); (try omega))
  all_goals (try (first | omega | (simp only [lens] <;> omega)))
  all_goals first
   | exact rfl
   | (rw [e1, e2]; done)
   | (rw [e1, e2]; exact rfl)
   | (rw [e1]; exact rfl)
   | exact e2.symm
   | trace_state
 | true =>
  have w3 := reL_W (s := (numR (numR (numR (numR (numR (numR (numR (numR s))))))))) (b := ((((((((false || numB s) || numB (numR s)) || numB (numR (numR s))) || numB (numR (numR (numR s)))) || numB (numR (numR (numR (numR s))))) || numB (numR (numR (numR (numR (numR s)))))) || numB (numR (numR (numR (numR (numR (numR s))))))) || numB (numR (numR (numR (numR (numR (numR (numR s))))))))) (by omega) m3
  have x3 := reE_size (numR (numR (numR (numR (numR (numR (numR (numR s)))))))) ((((((((false || numB s) || numB (numR s)) || numB (numR (numR s))) || numB (numR (numR (numR s)))) || numB (numR (numR (numR (numR s))))) || numB (numR (numR (numR (numR (numR s)))))) || numB (numR (numR (numR (numR (numR (numR s))))))) || numB (numR (numR (numR (numR (numR (numR (numR s)))))))) m3
  cases m4 : (((((((((false || numB s) || numB (numR s)) || numB (numR (numR s))) || numB (numR (numR (numR s)))) || numB (numR (numR (numR (numR s))))) || numB (numR (numR (numR (numR (numR s)))))) || numB (numR (numR (numR (numR (numR (numR s))))))) || numB (numR (numR (numR (numR (numR (numR (numR s)))))))) || numB (numR (numR (numR (numR (numR (numR (numR (numR s))))))))) with
  | true =>
   have q : dpK s = false := by simp only [dpK_eq, Bool.and_false, Bool.false_and, Bool.true_and, Bool.and_true, Bool.not_true, Bool.not_false, l0, l1, l2, m3, m4]
   have e1 := dpV_eq s
   have e2 := dpE_eq s
   rw [q, cond_false] at e1 e2
   rw [e1, e2]
   refine zero_rp ?_
   refine pure_of_H htDr_ok tabDr_ok (fuel := 5) (d := 7) [] (fun _ _ h => by cases h) ?_
   repeat' ((conv => whnf); first | (with_reducible first | (refine W1.o ?_; constructor) | rfl | exact castL_self _ _) | ((with_reducible refine V.same_t ?_); exact rfl) | ((with_reducible refine andB_room ?_ ?_ ?_); (· kernel_rfl); (· (first | omega | (simp only [lens] <;> omega)))) | ((with_reducible refine W2.o ?_; constructor); · (first | (with_reducible assumption) | (first | omega | (simp only [lens] <;> omega)))) | ((with_reducible refine W3.o ?_; constructor); · (first | (with_reducible assumption) | (first | omega | (simp only [lens] <;> omega)))) | ((with_reducible refine W4.o ?_; constructor); · (first | (with_reducible first | assumption | exact decide_eq_true rfl | exact sEq_self _) | ((with_reducible refine eqOK_i ?_); kernel_rfl) | (first | (first | exact rfl | exact m3 | exact w3 | exact m4)))) | ((with_reducible refine iteB_f ?_ ?_); · (first | (with_reducible first | assumption | exact decide_eq_true rfl | exact sEq_self _) | ((with_reducible refine eqOK_i ?_); kernel_rfl) | (first | (first | exact rfl | exact m3 | exact w3 | exact m4)))) | (with_reducible refine CD.wk_au ?_) | (with_reducible refine W5.o ?_; constructor) | ((with_reducible refine W6.o ?_; constructor) <;> intro hB))
   all_goals ((conv => whnf); (try dsimp only); (try simp only [Nat.succ_eq_add_one, Nat.le_eq, castL_self]); (try omega))
   all_goals (try (first | omega | (simp only [lens] <;> omega)))
   all_goals first
    | exact rfl
    | (rw [e1, e2]; done)
    | (rw [e1, e2]; exact rfl)
    | (rw [e1]; exact rfl)
    | exact e2.symm
    | trace_state
  | false =>
   cases m5 : sEq (reE (numR (numR (numR (numR (numR (numR (numR (numR s))))))))) ⟨#[]⟩ with
   | false =>
    have q : dpK s = false := by simp only [dpK_eq, Bool.and_false, Bool.false_and, Bool.true_and, Bool.and_true, Bool.not_true, Bool.not_false, l0, l1, l2, m3, m4, m5]
    have e1 := dpV_eq s
    have e2 := dpE_eq s
    rw [q, cond_false] at e1 e2
    rw [e1, e2]
    refine zero_rp ?_
    refine pure_of_H htDr_ok tabDr_ok (fuel := 5) (d := 7) [] (fun _ _ h => by cases h) ?_
    repeat' ((conv => whnf); first | (with_reducible first | (refine W1.o ?_; constructor) | rfl | exact castL_self _ _) | ((with_reducible refine V.same_t ?_); exact rfl) | ((with_reducible refine andB_room ?_ ?_ ?_); (· kernel_rfl); (· (first | omega | (simp only [lens] <;> omega)))) | ((with_reducible refine W2.o ?_; constructor); · (first | (with_reducible assumption) | (first | omega | (simp only [lens] <;> omega)))) | ((with_reducible refine W3.o ?_; constructor); · (first | (with_reducible assumption) | (first | omega | (simp only [lens] <;> omega)))) | ((with_reducible refine W4.o ?_; constructor); · (first | (with_reducible first | assumption | exact decide_eq_true rfl | exact sEq_self _) | ((with_reducible refine eqOK_i ?_); kernel_rfl) | (first | (first | exact rfl | exact m3 | exact w3 | exact m4 | exact m5)))) | ((with_reducible refine iteB_f ?_ ?_); · (first | (with_reducible first | assumption | exact decide_eq_true rfl | exact sEq_self _) | ((with_reducible refine eqOK_i ?_); kernel_rfl) | (first | (first | exact rfl | exact m3 | exact w3 | exact m4 | exact m5)))) | (with_reducible refine CD.wk_au ?_) | (with_reducible refine W5.o ?_; constructor) | ((with_reducible refine W6.o ?_; constructor) <;> intro hB))
    all_goals ((conv => whnf); (try dsimp only); (try simp only [Nat.succ_eq_add_one, Nat.le_eq, castL_self]); (try omega))
    all_goals (try (first | omega | (simp only [lens] <;> omega)))
    all_goals first
     | exact rfl
     | (rw [e1, e2]; done)
     | (rw [e1, e2]; exact rfl)
     | (rw [e1]; exact rfl)
     | exact e2.symm
     | trace_state
   | true =>
    cases m6 : maB (numV s) (numV (numR (numR (numR (numR (numR (numR (numR s))))))) - 1) (reL (numR (numR (numR (numR (numR (numR (numR (numR s))))))))) with
    | false =>
     rw [m6, cond_false] at ec
     have q : dpK s = false := by simp only [dpK_eq, Bool.and_false, Bool.false_and, Bool.true_and, Bool.and_true, Bool.not_true, Bool.not_false, l0, l1, l2, m3, m4, m5, m6]
     have e1 := dpV_eq s
     have e2 := dpE_eq s
     rw [q, cond_false] at e1 e2
     rw [e1, e2]
     refine zero_rp ?_
     refine pure_of_H htDr_ok tabDr_ok (fuel := 5) (d := 7) [] (fun _ _ h => by cases h) ?_
     repeat' ((conv => whnf); first | (with_reducible first | (refine W1.o ?_; constructor) | rfl | exact castL_self _ _) | ((with_reducible refine V.same_t ?_); exact rfl) | ((with_reducible refine andB_room ?_ ?_ ?_); (· kernel_rfl); (· (first | omega | (simp only [lens] <;> omega)))) | ((with_reducible refine W2.o ?_; constructor); · (first | (with_reducible assumption) | (first | omega | (simp only [lens] <;> omega)))) | ((with_reducible refine W3.o ?_; constructor); · (first | (with_reducible assumption) | (first | omega | (simp only [lens] <;> omega)))) | ((with_reducible refine W4.o ?_; constructor); · (first | (with_reducible first | assumption | exact decide_eq_true rfl | exact sEq_self _) | ((with_reducible refine eqOK_i ?_); kernel_rfl) | (first | (first | exact rfl | exact m3 | exact w3 | exact m4 | exact m5 | exact m6)))) | ((with_reducible refine iteB_f ?_ ?_); · (first | (with_reducible first | assumption | exact decide_eq_true rfl | exact sEq_self _) | ((with_reducible refine eqOK_i ?_); kernel_rfl) | (first | (first | exact rfl | exact m3 | exact w3 | exact m4 | exact m5 | exact m6)))) | (with_reducible refine CD.wk_au ?_) | (with_reducible refine W5.o ?_; constructor) | ((with_reducible refine W6.o ?_; constructor) <;> intro hB))
     all_goals ((conv => whnf); (try dsimp only); (try simp only [Nat.succ_eq_add_one, Nat.le_eq, castL_self]); (try omega))
     all_goals (try (first | omega | (simp only [lens] <;> omega)))
     all_goals first
      | exact rfl
      | (rw [e1, e2]; done)
      | (rw [e1, e2]; exact rfl)
      | (rw [e1]; exact rfl)
      | exact e2.symm
      | trace_state
    | true =>
     rw [m6, cond_true] at ec
     cases m7 : sEq (rpE (numV s) (numV (numR s)) (numV (numR (numR s))) (decide (numV (numR (numR (numR s))) = 1)) (reL (numR (numR (numR (numR (numR (numR (numR (numR s))))))))) (numV (numR (numR (numR (numR s)))) % 4294967296) (numV (numR (numR (numR (numR (numR s)))))) (numV (numR (numR (numR (numR (numR (numR s))))))) (numV (numR (numR (numR (numR (numR (numR (numR s))))))) - 1)) s with
     | false =>
      have q : dpK s = false := by simp only [dpK_eq, Bool.and_false, Bool.false_and, Bool.true_and, Bool.and_true, Bool.not_true, Bool.not_false, l0, l1, l2, m3, m4, m5, m6, m7]
      have e1 := dpV_eq s
      have e2 := dpE_eq s
      rw [q, cond_false] at e1 e2
      rw [e1, e2]
      refine zero_rp ?_
      refine pure_of_H htDr_ok tabDr_ok (fuel := 5) (d := 7) [] (fun _ _ h => by cases h) ?_
      repeat' ((conv => whnf); first | (with_reducible first | (refine W1.o ?_; constructor) | rfl | exact castL_self _ _) | ((with_reducible refine V.same_t ?_); exact rfl) | ((with_reducible refine andB_room ?_ ?_ ?_); (· kernel_rfl); (· (first | omega | (simp only [lens] <;> omega)))) | ((with_reducible refine W2.o ?_; constructor); · (first | (with_reducible assumption) | (first | omega | (simp only [lens] <;> omega)))) | ((with_reducible refine W3.o ?_; constructor); · (first | (with_reducible assumption) | (first | omega | (simp only [lens] <;> omega)))) | ((with_reducible refine W4.o ?_; constructor); · (first | (with_reducible first | assumption | exact decide_eq_true rfl | exact sEq_self _) | ((with_reducible refine eqOK_i ?_); kernel_rfl) | (first | (first | exact rfl | exact m3 | exact w3 | exact m4 | exact m5 | exact m6 | exact m7)))) | ((with_reducible refine iteB_f ?_ ?_); · (first | (with_reducible first | assumption | exact decide_eq_true rfl | exact sEq_self _) | ((with_reducible refine eqOK_i ?_); kernel_rfl) | (first | (first | exact rfl | exact m3 | exact w3 | exact m4 | exact m5 | exact m6 | exact m7)))) | (with_reducible refine CD.wk_au ?_) | (with_reducible refine W5.o ?_; constructor) | ((with_reducible refine W6.o ?_; constructor) <;> intro hB))
      all_goals ((conv => whnf); (try dsimp only); (try simp only [Nat.succ_eq_add_one, Nat.le_eq, castL_self]); (try omega))
      all_goals (try (first | omega | (simp only [lens] <;> omega)))
      all_goals first
       | exact rfl
       | (rw [e1, e2]; done)
       | (rw [e1, e2]; exact rfl)
       | (rw [e1]; exact rfl)
       | exact e2.symm
       | trace_state
     | true =>
      have q : dpK s = true := by simp only [dpK_eq, Bool.and_true, Bool.not_false, l0, l1, l2, m3, m4, m5, m6, m7]
      have e1 := dpV_eq s
      have e2 := dpE_eq s
      rw [q, cond_true] at e1 e2
      refine pure_of_H htDr_ok tabDr_ok (fuel := 5) (d := 7) [] (fun _ _ h => by cases h) ?_
      repeat' ((conv => whnf); first | (with_reducible first | (refine W1.o ?_; constructor) | rfl | exact castL_self _ _) | ((with_reducible refine V.same_t ?_); exact rfl) | ((with_reducible refine andB_room ?_ ?_ ?_); (· kernel_rfl); (· (first | omega | (simp only [lens] <;> omega)))) | ((with_reducible refine W2.o ?_; constructor); · (first | (with_reducible assumption) | (first | omega | (simp only [lens] <;> omega)))) | ((with_reducible refine W3.o ?_; constructor); · (first | (with_reducible assumption) | (first | omega | (simp only [lens] <;> omega)))) | ((with_reducible refine W4.o ?_; constructor); · (first | (with_reducible first | assumption | exact decide_eq_true rfl | exact sEq_self _) | ((with_reducible refine eqOK_i ?_); kernel_rfl) | (first | (first | exact rfl | exact m3 | exact w3 | exact m4 | exact m5 | exact m6 | exact m7)))) | ((with_reducible refine iteB_f ?_ ?_); · (first | (with_reducible first | assumption | exact decide_eq_true rfl | exact sEq_self _) | ((with_reducible refine eqOK_i ?_); kernel_rfl) | (first | (first | exact rfl | exact m3 | exact w3 | exact m4 | exact m5 | exact m6 | exact m7)))) | (with_reducible refine CD.wk_au ?_) | (with_reducible refine W5.o ?_; constructor) | ((with_reducible refine W6.o ?_; constructor) <;> intro hB))
      all_goals ((conv => whnf); (try dsimp only); (try simp only [Nat.succ_eq_add_one, Nat.le_eq, castL_self]); (try omega))
      all_goals (try (first | omega | (simp only [lens] <;> omega)))
      all_goals first
       | exact rfl
       | (rw [e1, e2]; done)
       | (rw [e1, e2]; exact rfl)
       | (rw [e1]; exact rfl)
       | exact e2.symm
       | trace_state
end Go.Proofs.Ytaloolcabmfjbaa
end

section
namespace Go.Proofs.Ytaloolcabmfjbaa
open Go.Sym
set_option linter.unusedVariables false
set_option linter.unusedSimpArgs false
set_option maxRecDepth 100000
set_option maxHeartbeats 4000000
noncomputable def rqYq (q : RqT) : ByteArray := rqY (q.1) (q.2.1) (q.2.2.1) (q.2.2.2.1) (q.2.2.2.2.1) (q.2.2.2.2.2.1) (q.2.2.2.2.2.2.1) (q.2.2.2.2.2.2.2)
noncomputable def chBq (q : RqT) : Bool := chB (q.1) (q.2.1) (q.2.2.1) (q.2.2.2.1) (q.2.2.2.2.1) (q.2.2.2.2.2.1) (q.2.2.2.2.2.2.1) (q.2.2.2.2.2.2.2)
noncomputable def dqP (s : ByteArray) : Bool := leI (numV s) 1073741824 && leI (numV (numR (numR (numR s)))) 1 && cmS (numR (numR (numR (numR (numR s))))) (((((false || numB s) || numB (numR s)) || numB (numR (numR s))) || numB (numR (numR (numR s)))) || numB (numR (numR (numR (numR s))))) && opS (cmE (numR (numR (numR (numR (numR s)))))) ((((((false || numB s) || numB (numR s)) || numB (numR (numR s))) || numB (numR (numR (numR s)))) || numB (numR (numR (numR (numR s))))) || numB (numR (numR (numR (numR (numR s)))))) && opS (opE (cmE (numR (numR (numR (numR (numR s))))))) (((((((false || numB s) || numB (numR s)) || numB (numR (numR s))) || numB (numR (numR (numR s)))) || numB (numR (numR (numR (numR s))))) || numB (numR (numR (numR (numR (numR s)))))) || numB (cmE (numR (numR (numR (numR (numR s))))))) && !((((((((false || numB s) || numB (numR s)) || numB (numR (numR s))) || numB (numR (numR (numR s)))) || numB (numR (numR (numR (numR s))))) || numB (numR (numR (numR (numR (numR s)))))) || numB (cmE (numR (numR (numR (numR (numR s))))))) || numB (opE (cmE (numR (numR (numR (numR (numR s))))))))
noncomputable def dqX (s : ByteArray) : ByteArray := (opE (opE (cmE (numR (numR (numR (numR (numR s))))))))
theorem dqK_is (s : ByteArray) : dqK s = (dqP s && sEq (dqX s) ⟨#[]⟩ && chBq (dq0 s) && sEq (bif chBq (dq0 s) then rqYq (dq0 s) else ⟨#[]⟩) s) := by
 rw [dqK_eq, rqE_eq]; rfl
def rowsG {e : List Ty} (g : rowDen e → Prop) (L : List (rowDen e)) : Prop := L.length ≤ 1073741824 ∧ ∀ i, i < L.length → g (Sym.rowAt e L i)
def goodQ (q : RqT) : Prop := smP q.1 ∧ u6P q.2.1 ∧ u6P q.2.2.1 ∧ rowsG cmg q.2.2.2.2.1 ∧ rowsG opg q.2.2.2.2.2.1 ∧ rowsG opg q.2.2.2.2.2.2.1 ∧ u6P q.2.2.2.2.2.2.2
theorem rq_back {q : RqT} (h : goodQ q) (t : ByteArray) : dqP (rqYq q ++ t) = true ∧ dqX (rqYq q ++ t) = t ∧ dq0 (rqYq q ++ t) = q := by
 obtain ⟨k, cl, nm, sr, C, A, B, rv⟩ := q
 obtain ⟨h_k, h_c, h_n, ⟨lC, gC⟩, ⟨lA, gA⟩, ⟨lB, gB⟩, h_r⟩ := h
 dsimp only at h_k h_c h_n lC gC lA gA lB gB h_r
 have cb := fun t => cm_lst lC gC t
 have ab := fun t => op_lst lA gA t
 have bb := fun t => op_lst lB gB t
 have a0 := fun t => (ab t).1
 have a1 := fun t => (ab t).2.1
 have a2 := fun t => (ab t).2.2
 have a3 := fun t => (lst_num opY A lA t).2
 have b0 := fun t => (bb t).1
 have b1 := fun t => (bb t).2.1
 have b2 := fun t => (bb t).2.2
 have b3 := fun t => (lst_num opY B lB t).2
 have c0 := fun t => (cb t).1
 have c1 := fun t => (cb t).2.1
 have c2 := fun t => (cb t).2.2
 have c3 := fun t => (lst_num cmY C lC t).2
 have e_k := sm_mod h_k
 have n_k := nb (sm_u6 h_k)
 have n0_k := n_k.1
 have n1_k := n_k.2.1
 have n2_k := n_k.2.2
 have n_cl := nb (h_c)
 have n0_cl := n_cl.1
 have n1_cl := n_cl.2.1
 have n2_cl := n_cl.2.2
 have n_nm := nb (h_n)
 have n0_nm := n_nm.1
 have n1_nm := n_nm.2.1
 have n2_nm := n_nm.2.2
 have n_sr := nb (tI_u6 sr)
 have n0_sr := n_sr.1
 have n1_sr := n_sr.2.1
 have n2_sr := n_sr.2.2
 have n_rv := nb (h_r)
 have n0_rv := n_rv.1
 have n1_rv := n_rv.2.1
 have n2_rv := n_rv.2.2
 unfold rqYq dqP dqX dq0
 dsimp only
 rw [rqY_eq, rqh_eq]
 simp only [ByteArray.append_assoc, e_k, n0_k, n1_k, n2_k, n0_cl, n1_cl, n2_cl, n0_nm, n1_nm, n2_nm, n0_sr, n1_sr, n2_sr, n0_rv, n1_rv, n2_rv, a0, a1, a2, a3, b0, b1, b2, b3, c0, c1, c2, c3, tI1, tI_le, sm_le h_k, Bool.or_false, Bool.not_false, Bool.and_self, and_self]
theorem any_good {e : List Ty} {p : rowDen e → Bool} {L : List (rowDen e)} {g : rowDen e → Prop} (hl : L.length ≤ 1073741824) (ha : anyB p L = false) (hg : ∀ i, i < L.length → p (Sym.rowAt e L i) = false → g (Sym.rowAt e L i)) : rowsG g L := ⟨hl, fun i hi => hg i hi (any_not ha hi)⟩
theorem cmg_of {r : CmQ} (h1 : badC r = false) (h2 : u6P r.2.2.2.1) : cmg r := by
 obtain ⟨key, w, h, n, val⟩ := r
 rw [badC_eq, mayC_eq, Bool.not_eq_false'] at h1
 have h1 := of_decide_eq_true h1
 dsimp only at h2
 refine ⟨?_, ⟨?_, ?_⟩, ⟨?_, ?_⟩, h2, ?_⟩
 all_goals (dsimp only [s6P]; omega)
theorem opg_of {r : OpQ} (h1 : badO r = false) (h2 : u6P r.2.2.2.2.1) : opg r := by
 obtain ⟨k, key, en, val, rev, lim, cnt, ks, pv⟩ := r
 rw [badO_eq, mayO_eq, Bool.not_eq_false'] at h1
 have h1 := of_decide_eq_true h1
 dsimp only at h2
 refine ⟨⟨?_, ?_⟩, ?_, ?_, ?_, h2, ⟨?_, ?_⟩⟩
 all_goals (dsimp only [s6P]; omega)
theorem rowsG_nil {e : List Ty} {g : rowDen e → Prop} {L : List (rowDen e)} (h : L.length = 0) : rowsG g L := ⟨by omega, fun i hi => by omega⟩
theorem good_of {q : RqT} (h : chBq q = true) (h1 : u6P q.2.1) (h2 : u6P q.2.2.1) (h3 : u6P q.2.2.2.2.2.2.2) (wC : cmW q.2.2.2.2.1 = true) (wA : opW q.2.2.2.2.2.1 = true) (wB : opW q.2.2.2.2.2.2.1 = true) : goodQ q := by
 obtain ⟨k, cl, nm, sr, C, A, B, rv⟩ := q
 unfold chBq at h
 rw [chB_eq] at h
 have h := (of_decide_eq_true h).1
 dsimp only at h h1 h2 h3 wC wA wB
 have uC := fun i hi => ((cmW_iff C).1 wC).2 i hi
 have uA := fun i hi => ((opW_iff A).1 wA).2 i hi
 have uB := fun i hi => ((opW_iff B).1 wB).2 i hi
 have hk : smP k := by rcases h with h | h | h | h <;> exact ⟨by omega, by omega⟩
 have hr : rowsG cmg C ∧ rowsG opg A ∧ rowsG opg B := by
  rcases h with h | h | h | h
  ·have hs := h.2.1
   rw [stB_eq, hcE_eq] at hs
   obtain ⟨_, hc, lA, lB, nA, nB⟩ := of_decide_eq_true hs
   have hc : ¬ 4 < C.length ∧ anyB badC C = false := by
    by_cases x : 4 < C.length
    ·rw [if_pos x] at hc; cases hc
    ·rw [if_neg x] at hc
     refine ⟨x, ?_⟩
     cases z : anyB badC C with
     | true => rw [z, if_pos rfl] at hc; cases hc
     | false => rfl
   refine ⟨any_good (by omega) hc.2 fun i hi hb => cmg_of hb (uC i hi).2.1, any_good (by omega) nA fun i hi hb => opg_of hb (uA i hi).2.2.2, any_good (by omega) nB fun i hi hb => opg_of hb (uB i hi).2.2.2⟩
  all_goals exact ⟨rowsG_nil (by omega), rowsG_nil (by omega), rowsG_nil (by omega)⟩
 exact ⟨hk, h1, h2, hr.1, hr.2.1, hr.2.2, h3⟩
theorem sEq_of {a b : ByteArray} (h : sEq a b = true) : a = b := of_decide_eq_true h
theorem sEq_is {a b : ByteArray} (h : a = b) : sEq a b = true := decide_eq_true h
theorem sEq_not {a b : ByteArray} (h : ¬ a = b) : sEq a b = false := decide_eq_false h
theorem dq_back {q : RqT} (h : goodQ q) (hc : chBq q = true) : dqK (rqYq q) = true ∧ dqV (rqYq q) = q ∧ dqE (rqYq q) = 0 := by
 have hb := rq_back h ⟨#[]⟩
 rw [cat_nil] at hb
 have hk : dqK (rqYq q) = true := by
  rw [dqK_is, hb.1, hb.2.1, hb.2.2, hc, cond_true, sEq_is rfl, sEq_is rfl]; rfl
 refine ⟨hk, ?_, ?_⟩
 ·rw [dqV_eq, hk, cond_true, hb.2.2]
 ·rw [dqE_eq, hk, cond_true]
theorem dq_more {q : RqT} (h : goodQ q) {x : ByteArray} (hx : ¬ x = ⟨#[]⟩) : dqK (rqYq q ++ x) = false := by
 have hb := rq_back h x
 rw [dqK_is, hb.1, hb.2.1, sEq_not hx]; rfl
theorem dq_taken {s : ByteArray} (h : dqK s = true) : chBq (dq0 s) = true ∧ rqYq (dq0 s) = s ∧ dqP s = true ∧ dqX s = ⟨#[]⟩ := by
 rw [dqK_is] at h
 simp only [Bool.and_eq_true] at h
 obtain ⟨⟨⟨h1, h2⟩, h3⟩, h4⟩ := h
 rw [h3, cond_true] at h4
 exact ⟨h3, sEq_of h4, h1, sEq_of h2⟩
theorem dqP_W {s : ByteArray} (hs : s.size ≤ 1000000) (h : dqP s = true) : cmW (dq0 s).2.2.2.2.1 = true ∧ opW (dq0 s).2.2.2.2.2.1 = true ∧ opW (dq0 s).2.2.2.2.2.2.1 = true := by
 unfold dqP at h
 simp only [Bool.and_eq_true] at h
 obtain ⟨⟨⟨⟨⟨m0, m1⟩, m2⟩, m3⟩, m4⟩, m5⟩ := h
 have z0 := numR_size s
 have z1 := numR_size (numR s)
 have z2 := numR_size (numR (numR s))
 have z3 := numR_size (numR (numR (numR s)))
 have z4 := numR_size (numR (numR (numR (numR s))))
 have x2 := cmE_size _ _ m2
 have x3 := opE_size _ _ m3
 exact ⟨cmL_W (by omega) m2, opL_W (by omega) m3, opL_W (by omega) m4⟩
theorem dq_good {s : ByteArray} (hs : s.size ≤ 1000000) (h : dqK s = true) : goodQ (dq0 s) := by
 obtain ⟨h1, h2, h3, h4⟩ := dq_taken h
 obtain ⟨wC, wA, wB⟩ := dqP_W hs h3
 exact good_of h1 (numV_in _) (numV_in _) (numV_in _) wC wA wB
theorem dq_less {q : RqT} (h : goodQ q) {p x : ByteArray} (hp : p.size ≤ 1000000) (e : p ++ x = rqYq q) (hx : ¬ x = ⟨#[]⟩) : dqK p = false := by
 cases hk : dqK p with
 | false => rfl
 | true =>
  have h2 := (dq_taken hk).2.1
  have hb := (rq_back (dq_good hp hk) x).2.1
  have hc := (rq_back h ⟨#[]⟩).2.1
  rw [cat_nil, ← e] at hc
  rw [h2] at hb
  exact absurd (hb.symm.trans hc) hx
noncomputable def maBq (q : RpT) : Bool := maB q.1 q.2.2.2.2.2.2.2.2 q.2.2.2.2.1
noncomputable def rpYq (q : RpT) : ByteArray := rph q.1 q.2.1 q.2.2.1 q.2.2.2.1 q.2.2.2.2.2.1 q.2.2.2.2.2.2.1 q.2.2.2.2.2.2.2.1 q.2.2.2.2.2.2.2.2 ++ catZ reY q.2.2.2.2.1
noncomputable def dpP (s : ByteArray) : Bool := leI (numV s) 1073741824 && leI (numV (numR (numR (numR s)))) 1 && leI (numV (numR (numR (numR (numR (numR (numR (numR s)))))))) 1073741824 && reS (numR (numR (numR (numR (numR (numR (numR (numR s)))))))) ((((((((false || numB s) || numB (numR s)) || numB (numR (numR s))) || numB (numR (numR (numR s)))) || numB (numR (numR (numR (numR s))))) || numB (numR (numR (numR (numR (numR s)))))) || numB (numR (numR (numR (numR (numR (numR s))))))) || numB (numR (numR (numR (numR (numR (numR (numR s)))))))) && !(((((((((false || numB s) || numB (numR s)) || numB (numR (numR s))) || numB (numR (numR (numR s)))) || numB (numR (numR (numR (numR s))))) || numB (numR (numR (numR (numR (numR s)))))) || numB (numR (numR (numR (numR (numR (numR s))))))) || numB (numR (numR (numR (numR (numR (numR (numR s)))))))) || numB (numR (numR (numR (numR (numR (numR (numR (numR s)))))))))
noncomputable def dpX (s : ByteArray) : ByteArray := (reE (numR (numR (numR (numR (numR (numR (numR (numR s)))))))))
theorem dpK_is (s : ByteArray) : dpK s = (dpP s && sEq (dpX s) ⟨#[]⟩ && maBq (dp0 s) && sEq (bif maBq (dp0 s) then rpYq (dp0 s) else ⟨#[]⟩) s) := by
 rw [dpK_eq, rpE_eq]; rfl
def goodP (q : RpT) : Prop := smP q.1 ∧ u6P q.2.1 ∧ u6P q.2.2.1 ∧ rowsG reg q.2.2.2.2.1 ∧ (0 ≤ q.2.2.2.2.2.1 ∧ q.2.2.2.2.2.1 < 4294967296) ∧ u6P q.2.2.2.2.2.2.1 ∧ u6P q.2.2.2.2.2.2.2.1 ∧ smP (q.2.2.2.2.2.2.2.2 + 1)
theorem rp_back {q : RpT} (h : goodP q) (t : ByteArray) : dpP (rpYq q ++ t) = true ∧ dpX (rpYq q ++ t) = t ∧ dp0 (rpYq q ++ t) = q := by
 obtain ⟨er, rv, cm, tk, R, ha, ap, te, ld⟩ := q
 obtain ⟨h_e, h_r, h_c, ⟨lR, gR⟩, h_h, h_a, h_t, h_l⟩ := h
 dsimp only at h_e h_r h_c lR gR h_h h_a h_t h_l
 have rb := fun t => re_lst lR gR t
 have r0 := fun t => (rb t).1
 have r1 := fun t => (rb t).2.1
 have r2 := fun t => (rb t).2.2
 have r3 := fun t => (lst_num reY R lR t).2
 have e_e := sm_mod h_e
 have e_l := sm_mod h_l
 have e_h : ha % 18446744073709551616 = ha := Int.emod_eq_of_lt h_h.1 (by omega)
 have e_h2 : ha % 4294967296 = ha := Int.emod_eq_of_lt h_h.1 h_h.2
 have n_er := nb (sm_u6 h_e)
 have n0_er := n_er.1
 have n1_er := n_er.2.1
 have n2_er := n_er.2.2
 have n_rv := nb (h_r)
 have n0_rv := n_rv.1
 have n1_rv := n_rv.2.1
 have n2_rv := n_rv.2.2
 have n_cm := nb (h_c)
 have n0_cm := n_cm.1
 have n1_cm := n_cm.2.1
 have n2_cm := n_cm.2.2
 have n_tk := nb (tI_u6 tk)
 have n0_tk := n_tk.1
 have n1_tk := n_tk.2.1
 have n2_tk := n_tk.2.2
 have n_ha := nb (⟨h_h.1, by omega⟩ : u6P ha)
 have n0_ha := n_ha.1
 have n1_ha := n_ha.2.1
 have n2_ha := n_ha.2.2
 have n_ap := nb (h_a)
 have n0_ap := n_ap.1
 have n1_ap := n_ap.2.1
 have n2_ap := n_ap.2.2
 have n_te := nb (h_t)
 have n0_te := n_te.1
 have n1_te := n_te.2.1
 have n2_te := n_te.2.2
 have n_ld := nb (sm_u6 h_l)
 have n0_ld := n_ld.1
 have n1_ld := n_ld.2.1
 have n2_ld := n_ld.2.2
 unfold rpYq dpP dpX dp0
 dsimp only
 rw [rph_eq]
 simp only [ByteArray.append_assoc, e_e, e_l, e_h, e_h2, n0_er, n1_er, n2_er, n0_rv, n1_rv, n2_rv, n0_cm, n1_cm, n2_cm, n0_tk, n1_tk, n2_tk, n0_ha, n1_ha, n2_ha, n0_ap, n1_ap, n2_ap, n0_te, n1_te, n2_te, n0_ld, n1_ld, n2_ld, r0, r1, r2, r3, tI1, tI_le, sm_le h_e, sm_le h_l, Bool.or_false, Bool.not_false, Bool.and_self, and_self, Int.add_sub_cancel]
theorem kvg_of {L : List KvQ} (hl : L.length ≤ 2000) (hw : kvW L = true) : L.length ≤ 1073741824 ∧ ∀ i, i < L.length → kvg (Sym.rowAt kvT L i) := by
 refine ⟨by omega, fun i hi => ?_⟩
 obtain ⟨x0, x1, x2, x3, x4⟩ := ((kvW_iff L).1 hw).2 i hi
 refine ⟨?_, ?_, x2, x3, x4⟩
 all_goals (dsimp only [s6P, szP] at *; omega)
theorem goodP_of {q : RpT} (h : maBq q = true) (h1 : u6P q.2.1) (h2 : u6P q.2.2.1) (h3 : 0 ≤ q.2.2.2.2.2.1 ∧ q.2.2.2.2.2.1 < 4294967296) (h4 : u6P q.2.2.2.2.2.2.1) (h5 : u6P q.2.2.2.2.2.2.2.1) (wR : reW q.2.2.2.2.1 = true) : goodP q := by
 unfold maBq at h
 rw [maB_eq] at h
 obtain ⟨a1, a2, a3, a4, a5, a6⟩ := of_decide_eq_true h
 refine ⟨⟨a1, by omega⟩, h1, h2, any_good (by omega) a6 fun i hi hb => ?_, h3, h4, h5, ⟨by omega, by omega⟩⟩
 have hw := ((reW_iff _).1 wR).2 i hi
 generalize Sym.rowAt reT q.2.2.2.2.1 i = r at hb hw
 obtain ⟨K, m, c, d, P⟩ := r
 rw [badR_eq, Bool.not_eq_false'] at hb
 obtain ⟨b1, b2, b3, b4⟩ := of_decide_eq_true hb
 exact ⟨kvg_of b1 hw.1, b3, b4, kvg_of b2 hw.2⟩
theorem dp_back {q : RpT} (h : goodP q) (hc : maBq q = true) : dpK (rpYq q) = true ∧ dpV (rpYq q) = q ∧ dpE (rpYq q) = 0 := by
 have hb := rp_back h ⟨#[]⟩
 rw [cat_nil] at hb
 have hk : dpK (rpYq q) = true := by
  rw [dpK_is, hb.1, hb.2.1, hb.2.2, hc, cond_true, sEq_is rfl, sEq_is rfl]; rfl
 refine ⟨hk, ?_, ?_⟩
 ·rw [dpV_eq, hk, cond_true, hb.2.2]
 ·rw [dpE_eq, hk, cond_true]
theorem dp_more {q : RpT} (h : goodP q) {x : ByteArray} (hx : ¬ x = ⟨#[]⟩) : dpK (rpYq q ++ x) = false := by
 have hb := rp_back h x
 rw [dpK_is, hb.1, hb.2.1, sEq_not hx]; rfl
theorem dp_taken {s : ByteArray} (h : dpK s = true) : maBq (dp0 s) = true ∧ rpYq (dp0 s) = s ∧ dpP s = true ∧ dpX s = ⟨#[]⟩ := by
 rw [dpK_is] at h
 simp only [Bool.and_eq_true] at h
 obtain ⟨⟨⟨h1, h2⟩, h3⟩, h4⟩ := h
 rw [h3, cond_true] at h4
 exact ⟨h3, sEq_of h4, h1, sEq_of h2⟩
theorem dpP_W {s : ByteArray} (hs : s.size ≤ 1000000) (h : dpP s = true) : reW (dp0 s).2.2.2.2.1 = true := by
 unfold dpP at h
 simp only [Bool.and_eq_true] at h
 obtain ⟨⟨⟨⟨m0, m1⟩, m2⟩, m3⟩, m4⟩ := h
 have z0 := numR_size s
 have z1 := numR_size (numR s)
 have z2 := numR_size (numR (numR s))
 have z3 := numR_size (numR (numR (numR s)))
 have z4 := numR_size (numR (numR (numR (numR s))))
 have z5 := numR_size (numR (numR (numR (numR (numR s)))))
 have z6 := numR_size (numR (numR (numR (numR (numR (numR s))))))
 have z7 := numR_size (numR (numR (numR (numR (numR (numR (numR s)))))))
 exact reL_W (by omega) m3
theorem dp_good {s : ByteArray} (hs : s.size ≤ 1000000) (h : dpK s = true) : goodP (dp0 s) := by
 obtain ⟨h1, h2, h3, h4⟩ := dp_taken h
 refine goodP_of h1 (numV_in _) (numV_in _) ⟨?_, ?_⟩ (numV_in _) (numV_in _) (dpP_W hs h3)
 ·exact Int.emod_nonneg _ (by omega)
 ·exact Int.emod_lt_of_pos _ (by omega)
theorem dp_less {q : RpT} (h : goodP q) {p x : ByteArray} (hp : p.size ≤ 1000000) (e : p ++ x = rpYq q) (hx : ¬ x = ⟨#[]⟩) : dpK p = false := by
 cases hk : dpK p with
 | false => rfl
 | true =>
  have h2 := (dp_taken hk).2.1
  have hb := (rp_back (dp_good hp hk) x).2.1
  have hc := (rp_back h ⟨#[]⟩).2.1
  rw [cat_nil, ← e] at hc
  rw [h2] at hb
  exact absurd (hb.symm.trans hc) hx
end Go.Proofs.Ytaloolcabmfjbaa
end

section
namespace Go.Proofs.Ytaloolcabmfjbaa
open Go.Sym
set_option linter.unusedVariables false
set_option linter.unusedSimpArgs false
set_option maxRecDepth 100000
set_option maxHeartbeats 4000000
abbrev ba1 (n : UInt8) : ByteArray := ⟨#[n]⟩
noncomputable def zOp : OpQ := (1, ba1 97, ⟨#[]⟩, ba1 120, 0, 0, false, false, false)
noncomputable abbrev rqX : RqT := (0, 7, 1, false, [], [zOp], [], 0)
abbrev byY : ByteArray := ⟨#[0, 3, 0, 0, 0, 0, 0, 3, 1, 1, 1, 97, 1, 120, 2, 3, 2, 0, 1, 0, 0]⟩
abbrev byX : ByteArray := ⟨#[0, 7, 1, 0, 0, 0, 1, 1, 1, 97, 0, 1, 120, 0, 0, 0, 0, 0, 0]⟩
noncomputable def zKv : KvQ := (ba1 97, ba1 120, 2, 3, 2)
noncomputable def zRe : ReQ := ([zKv], false, 1, 0, [])
noncomputable abbrev rpX : RpT := (0, 3, 0, false, [zRe], 0, 0, 0, 2)
theorem zO_may : mayO zOp = true := by
 show mayO (1, ba1 97, ⟨#[]⟩, ba1 120, 0, 0, false, false, false) = true
 rw [mayO_eq]; decide
theorem zO_chg : chgO zOp = true := by rw [chgO_eq]; decide
theorem zR_bad : badR zRe = false := by
 show badR ([zKv], false, 1, 0, []) = false
 rw [badR_eq]; decide
theorem rqX_ch : chBq rqX = true := by
 unfold chBq
 rw [chB_eq, stB_eq, hcE_eq, wrB_eq]
 simp only [anyB_eq, List.any_cons, List.any_nil, badO_eq, zO_may, zO_chg]
 decide
theorem catZ1 {e : List Ty} (y : rowDen e → ByteArray) (r : rowDen e) : catZ y [r] = numT 1 ++ y r := by rw [catZ_tl]; show numT 1 ++ (y r ++ ⟨#[]⟩) = _; rw [cat_nil]
theorem catZ0 {e : List Ty} (y : rowDen e → ByteArray) : catZ y [] = numT 0 := by rw [catZ_tl]; exact cat_nil _
theorem rqX_by : rqYq rqX = byX := by
 have e1 : rqYq rqX = rqh 0 7 1 false 0 ++ (catZ cmY [] ++ (catZ opY [zOp] ++ catZ opY [])) := rqY_eq _ _ _ _ _ _ _ _
 have e2 : opY zOp = _ := opY_eq _ _ _ _ _ _ _ _ _
 have e3 : tI false = 0 := tI_eq false
 rw [e1, catZ0, catZ0, catZ1, e2, rqh_eq, e3, txtT_eq, txtT_eq, txtT_eq]
 simp only [numT_eq0]
 decide +kernel
theorem rpX_ma : maBq rpX = true := by
 unfold maBq
 rw [maB_eq]
 simp only [anyB_eq, List.any_cons, List.any_nil, zR_bad]
 decide
theorem opX_W : opW [zOp] = true := by
 rw [opW_iff]
 refine ⟨by decide, fun i hi => ?_⟩
 have : i = 0 := by have : i < 1 := hi; omega
 subst this
 exact ⟨by decide, by decide, by decide, by decide, by decide⟩
theorem nil_cW : cmW [] = true := (cmW_iff _).2 ⟨by decide, fun i hi => by cases hi⟩
theorem nil_oW : opW [] = true := (opW_iff _).2 ⟨by decide, fun i hi => by cases hi⟩
theorem nil_kW : kvW [] = true := (kvW_iff _).2 ⟨by decide, fun i hi => by cases hi⟩
theorem kvX_W : kvW [zKv] = true := by
 rw [kvW_iff]
 refine ⟨by decide, fun i hi => ?_⟩
 have : i = 0 := by have : i < 1 := hi; omega
 subst this
 exact ⟨by decide, by decide, by decide, by decide, by decide⟩
theorem reX_W : reW [zRe] = true := by
 rw [reW_iff]
 refine ⟨by decide, fun i hi => ?_⟩
 have : i = 0 := by have : i < 1 := hi; omega
 subst this
 exact ⟨kvX_W, nil_kW⟩
theorem zput_at : PureAt Try.prog 45 [] (rqG rqX) := by
 have h : PureAt Try.prog 45 [] (.agg [.int .i64 0, .int .u64 7, .int .u64 1, .bool false, .nils, .lst opT [zOp] false, .nils, .int .u64 0]) := by
  refine pure_of_W0 (tab := noTab) (fuel := 4) (d := 5) noTab_ok ?_
  repeat' ((conv => whnf); first | (with_reducible first | (refine W1.o ?_; constructor) | rfl | exact castL_self _ _) | ((with_reducible refine V.same_t ?_); exact rfl) | ((with_reducible refine andB_room ?_ ?_ ?_); (· kernel_rfl); (· (first | omega | (simp only [lens] <;> omega) | (decide +kernel) | (simp only [pms] <;> decide +kernel)))) | ((with_reducible refine W2.o ?_; constructor); · (first | (with_reducible assumption) | (first | omega | (simp only [lens] <;> omega) | (decide +kernel) | (simp only [pms] <;> decide +kernel)))) | ((with_reducible refine W3.o ?_; constructor); · (first | (with_reducible assumption) | (first | omega | (simp only [lens] <;> omega) | (decide +kernel) | (simp only [pms] <;> decide +kernel)))) | ((with_reducible refine W4.o ?_; constructor); · (first | (with_reducible first | assumption | exact decide_eq_true rfl | exact sEq_self _) | ((with_reducible refine eqOK_i ?_); kernel_rfl) | (simp only [pms] <;> decide +kernel))) | ((with_reducible refine iteB_f ?_ ?_); · (first | (with_reducible first | assumption | exact decide_eq_true rfl | exact sEq_self _) | ((with_reducible refine eqOK_i ?_); kernel_rfl) | (simp only [pms] <;> decide +kernel))) | (with_reducible refine W5.o ?_; constructor) | ((with_reducible refine W6.o ?_; constructor) <;> intro hB))
  all_goals ((conv => whnf); (try dsimp only); (try simp only [Nat.succ_eq_add_one, Nat.le_eq, castL_self]); (try omega))
  all_goals (try (first | omega | (simp only [lens] <;> omega) | (decide +kernel) | (simp only [pms] <;> decide +kernel)))
  all_goals first
   | exact rfl
   | trace_state
 exact PureAt.val h fun φ => agg_of (LRel.cons_of (fun _ h => h) (LRel.cons_of (fun _ h => h) (LRel.cons_of (fun _ h => h) (LRel.cons_of (fun _ h => h) (LRel.cons_of (fun _ h => ofLst_rel (e := cmT) (a := .nils) rfl h) (LRel.cons_of (fun _ h => h) (LRel.cons_of (fun _ h => ofLst_rel (e := opT) (a := .nils) rfl h) fun _ h => h)))))))
noncomputable def zputF (args : List V) : Option (List Bool × V) := match args with
 | [] => some ([], rqG rqX)
 | _ => none
theorem zputF_ok (args : List V) (c : List Bool) (v : V) (h : zputF args = some (c, v)) (_ : allB c) : PureAt Try.prog 45 args v := by
 unfold zputF at h
 split at h
 ·cases h; exact zput_at
 ·cases h
noncomputable def atF (s : ByteArray) (v : V) (args : List V) : Option (List Bool × V) := match args with
 | [.str t] => some ([sEq t s], v)
 | _ => none
theorem atF_ok {P : Program} {g : FuncId} {s : ByteArray} {v : V} (hg : PureAt P g [.str s] v) (args : List V) (c : List Bool) (w : V) (h : atF s v args = some (c, w)) (hc : allB c) : PureAt P g args w := by
 unfold atF at h
 split at h
 ·cases h
  rw [sEq_of hc.1]; exact hg
 ·cases h
theorem decX_at : PureAt Try.prog 19 [.str byX] (.tup [rqG rqX, .int .i64 0]) := by
 have hg : goodQ rqX := good_of rqX_ch ⟨by decide, by decide⟩ ⟨by decide, by decide⟩ ⟨by decide, by decide⟩ nil_cW opX_W nil_oW
 obtain ⟨h1, h2, h3⟩ := dq_back hg rqX_ch
 have := decReq_at (rqYq rqX) (by rw [rqX_by]; decide)
 rw [h2, h3, rqX_by] at this
 exact this
theorem rpX_by : rpYq rpX = byY := by
 have e1 : rpYq rpX = rph 0 3 0 false 0 0 0 2 ++ catZ reY [zRe] := rfl
 have e2 : reY zRe = catZ kvY [zKv] ++ (numT (tI false) ++ (numT (1 % 18446744073709551616) ++ (numT (0 % 18446744073709551616) ++ catZ kvY []))) := reY_eq zRe
 have e4 : kvY zKv = _ := kvY_eq _ _ _ _ _
 have e3 : tI false = 0 := tI_eq false
 rw [e1, rph_eq, catZ1, e2, catZ1, catZ0, e4, e3, txtT_eq, txtT_eq]
 simp only [numT_eq0]
 decide +kernel
theorem decY_at : PureAt Try.prog 21 [.str byY] (.tup [rpG rpX, .int .i64 0]) := by
 have hg : goodP rpX := goodP_of rpX_ma ⟨by decide, by decide⟩ ⟨by decide, by decide⟩ ⟨by decide, by decide⟩ ⟨by decide, by decide⟩ ⟨by decide, by decide⟩ reX_W
 obtain ⟨h1, h2, h3⟩ := dp_back hg rpX_ma
 have := decResp_at (rpYq rpX) (by rw [rpX_by]; decide)
 rw [h2, h3, rpX_by] at this
 exact this
noncomputable def tabWs : Tab := oneTab 45 zputF (oneTab 19 (atF byX (.tup [rqG rqX, .int .i64 0])) (oneTab 21 (atF byY (.tup [rpG rpX, .int .i64 0])) (oneTab 13 (rqF wrF) (oneTab 9 (rqF enqF) noTab))))
theorem tabWs_ok : TabOK Try.prog tabWs := oneTab_ok zputF_ok (oneTab_ok (atF_ok decX_at) (oneTab_ok (atF_ok decY_at) (oneTab_ok (rqF_ok fun k cl nm sr C A B rv h => writes_at k cl nm rv sr C A B h.1 h.2.1) (oneTab_ok (rqF_ok fun k cl nm sr C A B rv h => encReq_at k cl nm rv sr C A B h.1 h.2.1 h.2.2.1 ⟨of_leI h.2.2.2.1, of_ltI h.2.2.2.2.1⟩ ⟨of_leI h.2.2.2.2.2.1, of_ltI h.2.2.2.2.2.2.1⟩ ⟨of_leI h.2.2.2.2.2.2.2.1, of_ltI h.2.2.2.2.2.2.2.2.1⟩) noTab_ok))))
theorem rqX_eq : rqE 0 7 1 false [] [zOp] [] 0 = rqYq rqX := by
 have := rqX_ch
 unfold chBq at this
 rw [rqE_eq, this, cond_true]; rfl
theorem rqX_ce : chE 0 7 1 false [] [zOp] [] 0 = 0 := by
 have := rqX_ch
 unfold chBq at this
 rw [chE_of, this, cond_true]
theorem rqX_wr : wrB 0 [zOp] [] = true := by
 rw [wrB_eq]
 simp only [anyB_eq, List.any_cons, List.any_nil, chgO_eq]
 decide
theorem works25_at : PureAt Try.prog 15 [] (.bool true) := by
 have f3 : sEq (rqE 0 7 1 false [] [zOp] [] 0) byX = true := sEq_is (rqX_eq.trans rqX_by)
 have f4 := rqX_ce
 have f6 := rqX_wr
 have w1 := opX_W
 have w2 := reX_W
 have w3 := nil_cW
 have w4 := nil_oW
 refine pure_of_H noHT_ok tabWs_ok (fuel := 20) (d := 14) [] (fun _ _ h => by cases h) ?_
 repeat' ((conv => whnf); first | (with_reducible first | (refine W1.o ?_; constructor) | rfl | exact castL_self _ _) | ((with_reducible refine V.same_t ?_); exact rfl) | ((with_reducible refine andB_room ?_ ?_ ?_); (· kernel_rfl); (· (first | omega | (simp only [lens] <;> omega) | (decide +kernel) | (simp only [pms] <;> decide +kernel)))) | ((with_reducible refine W2.o ?_; constructor); · (first | (with_reducible assumption) | (first | omega | (simp only [lens] <;> omega) | (decide +kernel) | (simp only [pms] <;> decide +kernel)))) | ((with_reducible refine W3.o ?_; constructor); · (first | (with_reducible assumption) | (first | omega | (simp only [lens] <;> omega) | (decide +kernel) | (simp only [pms] <;> decide +kernel)))) | ((with_reducible refine W4.o ?_; constructor); · (first | (with_reducible first | assumption | exact decide_eq_true rfl | exact sEq_self _) | ((with_reducible refine eqOK_i ?_); kernel_rfl) | (first | (first | exact f3 | exact w1 | exact w2 | exact w3 | exact w4 | exact f6) | (simp only [pms] <;> decide +kernel)))) | ((with_reducible refine iteB_f ?_ ?_); · (first | (with_reducible first | assumption | exact decide_eq_true rfl | exact sEq_self _) | ((with_reducible refine eqOK_i ?_); kernel_rfl) | (first | (first | exact f3 | exact w1 | exact w2 | exact w3 | exact w4 | exact f6) | (simp only [pms] <;> decide +kernel)))) | (with_reducible refine W5.o ?_; constructor) | ((with_reducible refine W6.o ?_; constructor) <;> intro hB))
 all_goals ((conv => whnf); (try dsimp only); (try simp only [Nat.succ_eq_add_one, Nat.le_eq, castL_self]); (try omega))
 all_goals (try (first | omega | (simp only [lens] <;> omega) | (decide +kernel) | (simp only [pms] <;> decide +kernel)))
 all_goals first
  | exact rfl
  | (rw [f6]; exact rfl)
  | trace_state
noncomputable def worksF (args : List V) : Option (List Bool × V) := match args with
 | [] => some ([], .bool true)
 | _ => none
theorem worksF_ok (args : List V) (c : List Bool) (v : V) (h : worksF args = some (c, v)) (_ : allB c) : PureAt Try.prog 15 args v := by
 unfold worksF at h
 split at h
 ·cases h; exact works25_at
 ·cases h
end Go.Proofs.Ytaloolcabmfjbaa
end

section
namespace Go.Proofs.Ytaloolcabmfjbaa
open Go.Sym
set_option linter.unusedVariables false
set_option linter.unusedSimpArgs false
set_option maxRecDepth 100000
set_option maxHeartbeats 4000000
noncomputable def dqF (args : List V) : Option (List Bool × V) := match args with
 | [.str s] => some ([decide (s.size ≤ 1000000)], .tup [rqG (dqV s), .int .i64 (dqE s)])
 | _ => none
theorem dqF_ok (args : List V) (c : List Bool) (v : V) (h : dqF args = some (c, v)) (hc : allB c) : PureAt Try.prog 19 args v := by
 unfold dqF at h
 split at h
 ·cases h; exact decReq_at _ (of_decide_eq_true hc.1)
 ·cases h
noncomputable def dpF (args : List V) : Option (List Bool × V) := match args with
 | [.str s] => some ([decide (s.size ≤ 1000000)], .tup [rpG (dpV s), .int .i64 (dpE s)])
 | _ => none
theorem dpF_ok (args : List V) (c : List Bool) (v : V) (h : dpF args = some (c, v)) (hc : allB c) : PureAt Try.prog 21 args v := by
 unfold dpF at h
 split at h
 ·cases h; exact decResp_at _ (of_decide_eq_true hc.1)
 ·cases h
noncomputable def tabOne : Tab := oneTab 19 dqF (oneTab 21 dpF (oneTab 11 (rqF chF) (oneTab 9 (rqF enqF) (oneTab 15 worksF tabDr))))
theorem tabOne_ok : TabOK Try.prog tabOne := oneTab_ok dqF_ok (oneTab_ok dpF_ok (oneTab_ok (rqF_ok fun k cl nm sr C A B rv h => check_at k cl nm rv sr C A B h.1 h.2.1 h.2.2.1 (of_leI h.2.2.2.1) (of_leI h.2.2.2.2.1) (of_leI h.2.2.2.2.2.1)) (oneTab_ok (rqF_ok fun k cl nm sr C A B rv h => encReq_at k cl nm rv sr C A B h.1 h.2.1 h.2.2.1 ⟨of_leI h.2.2.2.1, of_ltI h.2.2.2.2.1⟩ ⟨of_leI h.2.2.2.2.2.1, of_ltI h.2.2.2.2.2.2.1⟩ ⟨of_leI h.2.2.2.2.2.2.2.1, of_ltI h.2.2.2.2.2.2.2.2.1⟩) (oneTab_ok worksF_ok tabDr_ok))))
end Go.Proofs.Ytaloolcabmfjbaa
end
