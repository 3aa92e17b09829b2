/-
  Texts of this claim, one behind the other: PgDecF PgDecT PgBackL PgWk PgBrL PgWith PgHvW PgHv SymU PgHvFin EngP PgHEnd. Each says its own conditions.
-/
import Derived.Test.YtlfhiophojahbaaPgHM9
import Derived.Test.YtlfhiophojahbaaPgHM8
import Derived.Test.YtlfhiophojahbaaPgHM5
import Derived.Deep.Slices
import Derived.ChangeArms
import Derived.WideShapes
import Derived.OpenShut
import Derived.Below
import Derived.ChangeSame
import Derived.WalkKit
import Derived.ProofKit

set_option linter.unusedVariables false
set_option linter.unusedSimpArgs false
set_option linter.unusedSectionVars false
section
namespace Go.Proofs.Ytlfhiophojahbaa
open Go.Sym
set_option linter.unusedVariables false
set_option linter.unusedSimpArgs false
set_option maxRecDepth 100000
set_option maxHeartbeats 4000000

def leafT (t : ByteArray) : Bool := decide (bAt t 0 = 1)
def cntT (t : ByteArray) : Nat := lenP t 1
noncomputable def readP (s : ByteArray) : Prop := openI s = true ∧ s.size = 256 ∧ okB (leafT (openS s)) (openS s) (cntT (openS s)) = true
noncomputable def nodK (s : ByteArray) : List ByteArray := stK (leafT (openS s)) (openS s) (cntT (openS s))
noncomputable def nodX (s : ByteArray) : List ByteArray := stX (leafT (openS s)) (openS s) (cntT (openS s))
noncomputable def nodC (s : ByteArray) : List Int := stC (leafT (openS s)) (openS s) (cntT (openS s))
def decP (s : ByteArray) : Prop := readP s ∧ fitP (leafT (openS s)) (nodK s) (nodX s) (nodC s) ∧ encS (leafT (openS s)) (nodK s) (nodX s) (nodC s) = s
open Classical in
noncomputable def decL : ByteArray → Bool := hide fun s => if decP s then leafT (openS s) else false
open Classical in
noncomputable def decK : ByteArray → List ByteArray := hide fun s => if decP s then nodK s else []
open Classical in
noncomputable def decX : ByteArray → List ByteArray := hide fun s => if decP s then nodX s else []
open Classical in
noncomputable def decC : ByteArray → List Int := hide fun s => if decP s then nodC s else []
open Classical in
noncomputable def decE : ByteArray → Int := hide fun s => if decP s then 0 else 8
theorem dec_no {s : ByteArray} (h : ¬ decP s) : decL s = false ∧ decK s = [] ∧ decX s = [] ∧ decC s = [] ∧ decE s = 8 := by
  unfold decL decK decX decC decE
  rw [hide_eq, hide_eq, hide_eq, hide_eq, hide_eq]
  exact ⟨if_neg h, if_neg h, if_neg h, if_neg h, if_neg h⟩
theorem dec_yes {s : ByteArray} (h : decP s) : decL s = leafT (openS s) ∧ decK s = nodK s ∧ decX s = nodX s ∧ decC s = nodC s ∧ decE s = 0 := by
  unfold decL decK decX decC decE
  rw [hide_eq, hide_eq, hide_eq, hide_eq, hide_eq]
  exact ⟨if_pos h, if_pos h, if_pos h, if_pos h, if_pos h⟩
theorem nil_node {ρ : Env} : ∀ X, VRel ρ (.tup [.agg [.bool false, .nils, .nils, .nils], .int .i64 8]) X → VRel ρ (.tup [nodeV false [] [] [], .int .i64 8]) X :=
  tup_of (LRel.cons_of (node_rel rfl rfl rfl) fun _ h => h)
theorem decode_at (s : ByteArray) (hs : s.size ≤ 300) : PureAt Try.prog 10 [.str s] (.tup [nodeV (decL s) (decK s) (decX s) (decC s), .int .i64 (decE s)]) := by
  cases ho : openI s with
  | false =>
    have hn : ¬ decP s := fun h => by rw [h.1.1] at ho; cases ho
    obtain ⟨e1, e2, e3, e4, e5⟩ := dec_no hn
    rw [e1, e2, e3, e4, e5]
    refine PureAt.val (v := .tup [.agg [.bool false, .nils, .nils, .nils], .int .i64 8]) ?_ fun φ => nil_node
    refine pure_of_W0 (tab := tabPgI) (fuel := 3) (d := 6) tabPgI_ok ?_
    repeat' ((conv => whnf); first | (with_reducible first | (refine W1.o ?_; constructor) | rfl | exact castL_self _ _) | ((with_reducible refine V.same_t ?_); exact rfl) | ((with_reducible refine andB_room ?_ ?_ ?_); (· kernel_rfl); (· (first | omega | (simp only [lens] <;> omega)))) | ((with_reducible refine W2.o ?_; constructor); · (first | (with_reducible assumption) | (first | omega | (simp only [lens] <;> omega)))) | ((with_reducible refine W3.o ?_; constructor); · (first | (with_reducible assumption) | (first | omega | (simp only [lens] <;> omega)))) | ((with_reducible refine W4.o ?_; constructor); · (first | (with_reducible first | assumption | exact decide_eq_true rfl | exact sEq_self _) | ((with_reducible refine eqOK_i ?_); kernel_rfl) | (exact ho))) | ((with_reducible refine iteB_f ?_ ?_); · (first | (with_reducible first | assumption | exact decide_eq_true rfl | exact sEq_self _) | ((with_reducible refine eqOK_i ?_); kernel_rfl) | (exact ho))) | (with_reducible refine W5.o ?_; constructor) | ((with_reducible refine W6.o ?_; constructor) <;> intro hB))
    all_goals ((conv => whnf); (try dsimp only); (try simp only [Nat.succ_eq_add_one, Nat.le_eq, castL_self]); (try omega))
    all_goals (try (first | omega | (simp only [lens] <;> omega)))
    all_goals rfl
  | true =>
    have hz := openS_size s ho
    by_cases h6 : s.size = 256
    · have ht : (openS s).size = 252 := by omega
      have eT : openS s = restS (openS s) 0 := (restS_0 _).symm
      have p0 : (cutS (openS s) (Int.toNat 1) (ByteArray.size (openS s))) = restS (openS s) 1 := by
        have := cut_ext (openS s) 0 1
        rw [restS_0] at this
        exact this
      have p1 : (cutS (cutS (openS s) (Int.toNat 1) (ByteArray.size (openS s))) (Int.toNat 1) (ByteArray.size (cutS (openS s) (Int.toNat 1) (ByteArray.size (openS s))))) = restS (openS s) 2 := by rw [p0]; exact cut_ext (openS s) 1 1
      have sp0 : ByteArray.size (cutS (openS s) (Int.toNat 1) (ByteArray.size (openS s))) = 251 := by rw [p0, restS_size]; omega
      have a0 : (bAt (cutS (openS s) 0 (Int.toNat 1)) (Int.toNat 0)) = bAt (openS s) 0 := by
        have := cut_at (openS s) 0 1 0 (by omega) (by decide)
        rw [restS_0] at this
        exact this
      have a1 : (bAt (cutS (cutS (openS s) (Int.toNat 1) (ByteArray.size (openS s))) 0 (Int.toNat 1)) (Int.toNat 0)) = (cntT (openS s) : Int) := by rw [p0]; exact cut_len (openS s) 1 (by omega)
      have hcnt : cntT (openS s) ≤ 255 := by have := lenP_lt (openS s) 1; unfold cntT; omega
      by_cases hl : bAt (openS s) 0 = 1
      · have eL : leafT (openS s) = true := decide_eq_true hl
        rw [← a0] at hl
        have f0 : decide (@Eq Int (bAt (cutS (openS s) 0 (Int.toNat 1)) (Int.toNat 0)) 1) = true := decide_eq_true hl
        have hls : ∀ N, ∀ y ∈ [(⟨12, [(0, 0), (1, 1), (2, 2), (3, 3)], dcC true s (openS s) (cntT (openS s)) 0, dcO true s (openS s) (cntT (openS s))⟩ : LpD)], y.ok Try.prog N 0 (bodyOf Try.prog 10) := fun N y hy => by
          rw [List.mem_singleton.1 hy]
          exact dc_leaf s (openS s) (cntT (openS s)) ht hcnt N
        have r0 := runP_0 true (openS s)
        obtain ⟨i1, i2, i3, i4⟩ := st_of r0
        have y2 : (cutS (cutS (openS s) (Int.toNat 1) (ByteArray.size (openS s))) (Int.toNat 1) (ByteArray.size (cutS (openS s) (Int.toNat 1) (ByteArray.size (openS s))))) = restS (openS s) (stO true (openS s) 0) := by rw [i4]; exact p1
        have y5 := y2
        have z1 : (stK true (openS s) 0).length = 0 := by rw [i1]; rfl
        have z2 : (stX true (openS s) 0).length = 0 := by rw [i2]; rfl
        have z3 : (stC true (openS s) 0).length = 0 := by rw [i3]; rfl
        cases hk : okB true (openS s) (cntT (openS s)) with
        | false =>
          have hn : ¬ decP s := fun h => by
            have := h.1.2.2
            rw [eL, hk] at this
            cases this
          obtain ⟨e1, e2, e3, e4, e5⟩ := dec_no hn
          rw [e1, e2, e3, e4, e5]
          refine PureAt.val (v := .tup [.agg [.bool false, .nils, .nils, .nils], .int .i64 8]) ?_ fun φ => nil_node
          refine pure_of_loops tabPgI_ok (fuel := 3) (d := 6) _ hls ?_
          repeat' ((conv => whnf); first | (with_reducible first | (refine W1.o ?_; constructor) | rfl | exact castL_self _ _) | ((with_reducible refine V.same_t ?_); exact rfl) | ((with_reducible refine andB_room ?_ ?_ ?_); (· kernel_rfl); (· (first | omega | (simp only [lens] <;> omega)))) | ((with_reducible refine W2.o ?_; constructor); · (first | (with_reducible assumption) | (first | omega | (simp only [lens] <;> omega)))) | ((with_reducible refine W3.o ?_; constructor); · (first | (with_reducible assumption) | (first | omega | (simp only [lens] <;> omega)))) | ((with_reducible refine W4.o ?_; constructor); · (first | (with_reducible first | assumption | exact decide_eq_true rfl | exact sEq_self _) | ((with_reducible refine eqOK_i ?_); kernel_rfl) | (first | exact ho | exact f0))) | ((with_reducible refine iteB_f ?_ ?_); · (first | (with_reducible first | assumption | exact decide_eq_true rfl | exact sEq_self _) | ((with_reducible refine eqOK_i ?_); kernel_rfl) | (first | exact ho | exact f0))) | (with_reducible refine CD.wk_au ?_) | (with_reducible refine W5.o ?_; constructor) | ((with_reducible refine W6.o ?_; constructor) <;> intro hB))
          all_goals ((conv => whnf); (try dsimp only); (try simp only [Nat.succ_eq_add_one, Nat.le_eq, castL_self]); (try omega))
          all_goals (try (first | omega | (simp only [lens] <;> omega)))
          all_goals first
            | rfl
            | exact z1
            | exact z2
            | exact z3
            | exact y2
            | exact y5
            | exact f0
            | omega
            | trace_state
        | true =>
          have hsome : (runP true (openS s) (cntT (openS s))).isSome = true := by rw [← okB_eq]; exact hk
          obtain ⟨q1, q2, q3, q4, q5⟩ := runP_in (by omega) _ (runP_st4 hsome)
          dsimp only at q1 q2 q3 q4 q5
          have eK : (seg (stK true (openS s) (cntT (openS s))) 0 (List.length (stK true (openS s) (cntT (openS s))))) = stK true (openS s) (cntT (openS s)) := seg_all _ rfl
          have eX : (seg (stX true (openS s) (cntT (openS s))) 0 (List.length (stX true (openS s) (cntT (openS s))))) = stX true (openS s) (cntT (openS s)) := seg_all _ rfl
          have eC : (seg (stC true (openS s) (cntT (openS s))) 0 (List.length (stC true (openS s) (cntT (openS s))))) = stC true (openS s) (cntT (openS s)) := seg_all _ rfl
          have l1 : List.length (seg (stK true (openS s) (cntT (openS s))) 0 (List.length (stK true (openS s) (cntT (openS s))))) ≤ 4611686018427387904 := by rw [eK]; omega
          have l2 : List.length (seg (stX true (openS s) (cntT (openS s))) 0 (List.length (stX true (openS s) (cntT (openS s))))) ≤ 4611686018427387904 := by rw [eX]; omega
          have l3 : List.length (seg (stC true (openS s) (cntT (openS s))) 0 (List.length (stC true (openS s) (cntT (openS s))))) ≤ 4611686018427387904 := by rw [eC]; omega
          have dK : nodK s = stK true (openS s) (cntT (openS s)) := by unfold nodK; rw [eL]
          have dX : nodX s = stX true (openS s) (cntT (openS s)) := by unfold nodX; rw [eL]
          have dC : nodC s = stC true (openS s) (cntT (openS s)) := by unfold nodC; rw [eL]
          by_cases hf : fitP true (seg (stK true (openS s) (cntT (openS s))) 0 (List.length (stK true (openS s) (cntT (openS s))))) (seg (stX true (openS s) (cntT (openS s))) 0 (List.length (stX true (openS s) (cntT (openS s))))) (seg (stC true (openS s) (cntT (openS s))) 0 (List.length (stC true (openS s) (cntT (openS s)))))
          · have g1 := encE_0 hf
            by_cases he : encS true (seg (stK true (openS s) (cntT (openS s))) 0 (List.length (stK true (openS s) (cntT (openS s))))) (seg (stX true (openS s) (cntT (openS s))) 0 (List.length (stX true (openS s) (cntT (openS s))))) (seg (stC true (openS s) (cntT (openS s))) 0 (List.length (stC true (openS s) (cntT (openS s))))) = s
            · have g2 : sEq (encS true (seg (stK true (openS s) (cntT (openS s))) 0 (List.length (stK true (openS s) (cntT (openS s))))) (seg (stX true (openS s) (cntT (openS s))) 0 (List.length (stX true (openS s) (cntT (openS s))))) (seg (stC true (openS s) (cntT (openS s))) 0 (List.length (stC true (openS s) (cntT (openS s)))))) s = true := decide_eq_true he
              have hd : decP s := by
                refine ⟨⟨ho, h6, by rw [eL]; exact hk⟩, ?_, ?_⟩
                · rw [eL, dK, dX, dC, ← eK, ← eX, ← eC]; exact hf
                · rw [eL, dK, dX, dC, ← eK, ← eX, ← eC]; exact he
              obtain ⟨e1, e2, e3, e4, e5⟩ := dec_yes hd
              rw [e1, e2, e3, e4, e5, eL, dK, dX, dC]
              refine pure_of_loops tabPgI_ok (fuel := 3) (d := 6) _ hls ?_
              repeat' ((conv => whnf); first | (with_reducible first | (refine W1.o ?_; constructor) | rfl | exact castL_self _ _) | ((with_reducible refine V.same_t ?_); exact rfl) | ((with_reducible refine andB_room ?_ ?_ ?_); (· kernel_rfl); (· (first | omega | (simp only [lens] <;> omega)))) | ((with_reducible refine W2.o ?_; constructor); · (first | (with_reducible assumption) | (first | omega | (simp only [lens] <;> omega)))) | ((with_reducible refine W3.o ?_; constructor); · (first | (with_reducible assumption) | (first | omega | (simp only [lens] <;> omega)))) | ((with_reducible refine W4.o ?_; constructor); · (first | (with_reducible first | assumption | exact decide_eq_true rfl | exact sEq_self _) | ((with_reducible refine eqOK_i ?_); kernel_rfl) | (first | exact ho | exact f0 | exact g2))) | ((with_reducible refine iteB_f ?_ ?_); · (first | (with_reducible first | assumption | exact decide_eq_true rfl | exact sEq_self _) | ((with_reducible refine eqOK_i ?_); kernel_rfl) | (first | exact ho | exact f0 | exact g2))) | (with_reducible refine CD.wk_au ?_) | (with_reducible refine W5.o ?_; constructor) | ((with_reducible refine W6.o ?_; constructor) <;> intro hB))
              all_goals ((conv => whnf); (try dsimp only); (try simp only [Nat.succ_eq_add_one, Nat.le_eq, castL_self]); (try omega))
              all_goals (try (first | omega | (simp only [lens] <;> omega)))
              all_goals first
                | rfl
                | exact z1
                | exact z2
                | exact z3
                | exact y2
                | exact y5
                | exact f0
                | omega
                | (rw [eK, eX, eC])
                | trace_state
            · have g2 : sEq (encS true (seg (stK true (openS s) (cntT (openS s))) 0 (List.length (stK true (openS s) (cntT (openS s))))) (seg (stX true (openS s) (cntT (openS s))) 0 (List.length (stX true (openS s) (cntT (openS s))))) (seg (stC true (openS s) (cntT (openS s))) 0 (List.length (stC true (openS s) (cntT (openS s)))))) s = false := decide_eq_false he
              have hn : ¬ decP s := fun h => he (by
                have := h.2.2
                rw [eL, dK, dX, dC, ← eK, ← eX, ← eC] at this
                exact this)
              obtain ⟨e1, e2, e3, e4, e5⟩ := dec_no hn
              rw [e1, e2, e3, e4, e5]
              refine PureAt.val (v := .tup [.agg [.bool false, .nils, .nils, .nils], .int .i64 8]) ?_ fun φ => nil_node
              refine pure_of_loops tabPgI_ok (fuel := 3) (d := 6) _ hls ?_
              repeat' ((conv => whnf); first | (with_reducible first | (refine W1.o ?_; constructor) | rfl | exact castL_self _ _) | ((with_reducible refine V.same_t ?_); exact rfl) | ((with_reducible refine andB_room ?_ ?_ ?_); (· kernel_rfl); (· (first | omega | (simp only [lens] <;> omega)))) | ((with_reducible refine W2.o ?_; constructor); · (first | (with_reducible assumption) | (first | omega | (simp only [lens] <;> omega)))) | ((with_reducible refine W3.o ?_; constructor); · (first | (with_reducible assumption) | (first | omega | (simp only [lens] <;> omega)))) | ((with_reducible refine W4.o ?_; constructor); · (first | (with_reducible first | assumption | exact decide_eq_true rfl | exact sEq_self _) | ((with_reducible refine eqOK_i ?_); kernel_rfl) | (first | exact ho | exact f0 | exact g2))) | ((with_reducible refine iteB_f ?_ ?_); · (first | (with_reducible first | assumption | exact decide_eq_true rfl | exact sEq_self _) | ((with_reducible refine eqOK_i ?_); kernel_rfl) | (first | exact ho | exact f0 | exact g2))) | (with_reducible refine CD.wk_au ?_) | (with_reducible refine W5.o ?_; constructor) | ((with_reducible refine W6.o ?_; constructor) <;> intro hB))
              all_goals ((conv => whnf); (try dsimp only); (try simp only [Nat.succ_eq_add_one, Nat.le_eq, castL_self]); (try omega))
              all_goals (try (first | omega | (simp only [lens] <;> omega)))
              all_goals first
                | rfl
                | exact z1
                | exact z2
                | exact z3
                | exact y2
                | exact y5
                | exact f0
                | omega
                | trace_state
          · have g1 : ¬ @Eq Int (encE true (seg (stK true (openS s) (cntT (openS s))) 0 (List.length (stK true (openS s) (cntT (openS s))))) (seg (stX true (openS s) (cntT (openS s))) 0 (List.length (stX true (openS s) (cntT (openS s))))) (seg (stC true (openS s) (cntT (openS s))) 0 (List.length (stC true (openS s) (cntT (openS s)))))) 0 := by
              by_cases hm : mayP true (seg (stK true (openS s) (cntT (openS s))) 0 (List.length (stK true (openS s) (cntT (openS s))))) (seg (stX true (openS s) (cntT (openS s))) 0 (List.length (stX true (openS s) (cntT (openS s))))) (seg (stC true (openS s) (cntT (openS s))) 0 (List.length (stC true (openS s) (cntT (openS s)))))
              · rw [encE_3 hm (fun h => hf ⟨hm, h⟩)]; decide
              · rw [encE_2 hm]; decide
            have hn : ¬ decP s := fun h => hf (by
              have := h.2.1
              rw [eL, dK, dX, dC, ← eK, ← eX, ← eC] at this
              exact this)
            obtain ⟨e1, e2, e3, e4, e5⟩ := dec_no hn
            rw [e1, e2, e3, e4, e5]
            refine PureAt.val (v := .tup [.agg [.bool false, .nils, .nils, .nils], .int .i64 8]) ?_ fun φ => nil_node
            refine pure_of_loops tabPgI_ok (fuel := 3) (d := 6) _ hls ?_
            repeat' ((conv => whnf); first | (with_reducible first | (refine W1.o ?_; constructor) | rfl | exact castL_self _ _) | ((with_reducible refine V.same_t ?_); exact rfl) | ((with_reducible refine andB_room ?_ ?_ ?_); (· kernel_rfl); (· (first | omega | (simp only [lens] <;> omega)))) | ((with_reducible refine W2.o ?_; constructor); · (first | (with_reducible assumption) | (first | omega | (simp only [lens] <;> omega)))) | ((with_reducible refine W3.o ?_; constructor); · (first | (with_reducible assumption) | (first | omega | (simp only [lens] <;> omega)))) | ((with_reducible refine W4.o ?_; constructor); · (first | (with_reducible first | assumption | exact decide_eq_true rfl | exact sEq_self _) | ((with_reducible refine eqOK_i ?_); kernel_rfl) | (first | exact ho | exact f0))) | ((with_reducible refine iteB_f ?_ ?_); · (first | (with_reducible first | assumption | exact decide_eq_true rfl | exact sEq_self _) | ((with_reducible refine eqOK_i ?_); kernel_rfl) | (first | exact ho | exact f0))) | (with_reducible refine CD.wk_au ?_) | (with_reducible refine W5.o ?_; constructor) | ((with_reducible refine W6.o ?_; constructor) <;> intro hB))
            all_goals ((conv => whnf); (try dsimp only); (try simp only [Nat.succ_eq_add_one, Nat.le_eq, castL_self]); (try omega))
            all_goals (try (first | omega | (simp only [lens] <;> omega)))
            all_goals first
              | rfl
              | exact z1
              | exact z2
              | exact z3
              | exact y2
              | exact y5
              | exact f0
              | omega
              | trace_state
      · have eL : leafT (openS s) = false := decide_eq_false hl
        rw [← a0] at hl
        have f0 : decide (@Eq Int (bAt (cutS (openS s) 0 (Int.toNat 1)) (Int.toNat 0)) 1) = false := decide_eq_false hl
        have hls : ∀ N, ∀ y ∈ [(⟨12, [(0, 0), (1, 1), (2, 2), (3, 3), (6, 5)], dcC false s (openS s) (cntT (openS s)) 0, dcO false s (openS s) (cntT (openS s))⟩ : LpD)], y.ok Try.prog N 0 (bodyOf Try.prog 10) := fun N y hy => by
          rw [List.mem_singleton.1 hy]
          exact dc_knot s (openS s) (cntT (openS s)) ht hcnt N
        have r0 := runP_0 false (openS s)
        obtain ⟨i1, i2, i3, i4⟩ := st_of r0
        have p2 : (cutS (cutS (cutS (openS s) (Int.toNat 1) (ByteArray.size (openS s))) (Int.toNat 1) (ByteArray.size (cutS (openS s) (Int.toNat 1) (ByteArray.size (openS s))))) (Int.toNat 4) (ByteArray.size (cutS (cutS (openS s) (Int.toNat 1) (ByteArray.size (openS s))) (Int.toNat 1) (ByteArray.size (cutS (openS s) (Int.toNat 1) (ByteArray.size (openS s))))))) = restS (openS s) 6 := by rw [p1]; exact cut_ext (openS s) 2 4
        have sp1 : ByteArray.size (cutS (cutS (openS s) (Int.toNat 1) (ByteArray.size (openS s))) (Int.toNat 1) (ByteArray.size (cutS (openS s) (Int.toNat 1) (ByteArray.size (openS s))))) = 250 := by rw [p1, restS_size]; omega
        have c0 : bAt (cutS (cutS (cutS (openS s) (Int.toNat 1) (ByteArray.size (openS s))) (Int.toNat 1) (ByteArray.size (cutS (openS s) (Int.toNat 1) (ByteArray.size (openS s))))) 0 (Int.toNat 4)) (Int.toNat 0) = bAt (openS s) 2 := by rw [p1]; exact cut_at (openS s) 2 4 0 (by omega) (by decide)
        have c1 : bAt (cutS (cutS (cutS (openS s) (Int.toNat 1) (ByteArray.size (openS s))) (Int.toNat 1) (ByteArray.size (cutS (openS s) (Int.toNat 1) (ByteArray.size (openS s))))) 0 (Int.toNat 4)) (Int.toNat 1) = bAt (openS s) (2 + 1) := by rw [p1]; exact cut_at (openS s) 2 4 1 (by omega) (by decide)
        have c2 : bAt (cutS (cutS (cutS (openS s) (Int.toNat 1) (ByteArray.size (openS s))) (Int.toNat 1) (ByteArray.size (cutS (openS s) (Int.toNat 1) (ByteArray.size (openS s))))) 0 (Int.toNat 4)) (Int.toNat 2) = bAt (openS s) (2 + 2) := by rw [p1]; exact cut_at (openS s) 2 4 2 (by omega) (by decide)
        have c3 : bAt (cutS (cutS (cutS (openS s) (Int.toNat 1) (ByteArray.size (openS s))) (Int.toNat 1) (ByteArray.size (cutS (openS s) (Int.toNat 1) (ByteArray.size (openS s))))) 0 (Int.toNat 4)) (Int.toNat 3) = bAt (openS s) (2 + 3) := by rw [p1]; exact cut_at (openS s) 2 4 3 (by omega) (by decide)
        have m4 : or4 (bAt (cutS (cutS (cutS (openS s) (Int.toNat 1) (ByteArray.size (openS s))) (Int.toNat 1) (ByteArray.size (cutS (openS s) (Int.toNat 1) (ByteArray.size (openS s))))) 0 (Int.toNat 4)) (Int.toNat 0)) (bAt (cutS (cutS (cutS (openS s) (Int.toNat 1) (ByteArray.size (openS s))) (Int.toNat 1) (ByteArray.size (cutS (openS s) (Int.toNat 1) (ByteArray.size (openS s))))) 0 (Int.toNat 4)) (Int.toNat 1)) (bAt (cutS (cutS (cutS (openS s) (Int.toNat 1) (ByteArray.size (openS s))) (Int.toNat 1) (ByteArray.size (cutS (openS s) (Int.toNat 1) (ByteArray.size (openS s))))) 0 (Int.toNat 4)) (Int.toNat 2)) (bAt (cutS (cutS (cutS (openS s) (Int.toNat 1) (ByteArray.size (openS s))) (Int.toNat 1) (ByteArray.size (cutS (openS s) (Int.toNat 1) (ByteArray.size (openS s))))) 0 (Int.toNat 4)) (Int.toNat 3)) = n4 (openS s) 2 := by rw [c0, c1, c2, c3]; rfl
        have i3 : stC false (openS s) 0 = [n4 (openS s) 2] := i3
        have y2 : (cutS (cutS (cutS (openS s) (Int.toNat 1) (ByteArray.size (openS s))) (Int.toNat 1) (ByteArray.size (cutS (openS s) (Int.toNat 1) (ByteArray.size (openS s))))) (Int.toNat 4) (ByteArray.size (cutS (cutS (openS s) (Int.toNat 1) (ByteArray.size (openS s))) (Int.toNat 1) (ByteArray.size (cutS (openS s) (Int.toNat 1) (ByteArray.size (openS s))))))) = restS (openS s) (stO false (openS s) 0) := by rw [i4]; exact p2
        have y5 : seg [or4 (bAt (cutS (cutS (cutS (openS s) (Int.toNat 1) (ByteArray.size (openS s))) (Int.toNat 1) (ByteArray.size (cutS (openS s) (Int.toNat 1) (ByteArray.size (openS s))))) 0 (Int.toNat 4)) (Int.toNat 0)) (bAt (cutS (cutS (cutS (openS s) (Int.toNat 1) (ByteArray.size (openS s))) (Int.toNat 1) (ByteArray.size (cutS (openS s) (Int.toNat 1) (ByteArray.size (openS s))))) 0 (Int.toNat 4)) (Int.toNat 1)) (bAt (cutS (cutS (cutS (openS s) (Int.toNat 1) (ByteArray.size (openS s))) (Int.toNat 1) (ByteArray.size (cutS (openS s) (Int.toNat 1) (ByteArray.size (openS s))))) 0 (Int.toNat 4)) (Int.toNat 2)) (bAt (cutS (cutS (cutS (openS s) (Int.toNat 1) (ByteArray.size (openS s))) (Int.toNat 1) (ByteArray.size (cutS (openS s) (Int.toNat 1) (ByteArray.size (openS s))))) 0 (Int.toNat 4)) (Int.toNat 3))] 0 1 = stC false (openS s) 0 := by rw [seg_one, m4, i3]
        have b0 : 0 ≤ (bAt (cutS (openS s) 0 (Int.toNat 1)) (Int.toNat 0)) ∧ (bAt (cutS (openS s) 0 (Int.toNat 1)) (Int.toNat 0)) < 256 := bAt_in _ _
        have z1 : (stK false (openS s) 0).length = 0 := by rw [i1]; rfl
        have z2 : (stX false (openS s) 0).length = 0 := by rw [i2]; rfl
        have z3 : (stC false (openS s) 0).length = 1 := by rw [i3]; rfl
        cases hk : okB false (openS s) (cntT (openS s)) with
        | false =>
          have hn : ¬ decP s := fun h => by
            have := h.1.2.2
            rw [eL, hk] at this
            cases this
          obtain ⟨e1, e2, e3, e4, e5⟩ := dec_no hn
          rw [e1, e2, e3, e4, e5]
          refine PureAt.val (v := .tup [.agg [.bool false, .nils, .nils, .nils], .int .i64 8]) ?_ fun φ => nil_node
          refine pure_of_loops tabPgI_ok (fuel := 3) (d := 6) _ hls ?_
          repeat' ((conv => whnf); first | (with_reducible first | (refine W1.o ?_; constructor) | rfl | exact castL_self _ _) | ((with_reducible refine V.same_t ?_); exact rfl) | ((with_reducible refine andB_room ?_ ?_ ?_); (· kernel_rfl); (· (first | omega | (simp only [lens] <;> omega)))) | ((with_reducible refine W2.o ?_; constructor); · (first | (with_reducible assumption) | (first | omega | (simp only [lens] <;> omega)))) | ((with_reducible refine W3.o ?_; constructor); · (first | (with_reducible assumption) | (first | omega | (simp only [lens] <;> omega)))) | ((with_reducible refine W4.o ?_; constructor); · (first | (with_reducible first | assumption | exact decide_eq_true rfl | exact sEq_self _) | ((with_reducible refine eqOK_i ?_); kernel_rfl) | (first | exact ho | exact f0))) | ((with_reducible refine iteB_f ?_ ?_); · (first | (with_reducible first | assumption | exact decide_eq_true rfl | exact sEq_self _) | ((with_reducible refine eqOK_i ?_); kernel_rfl) | (first | exact ho | exact f0))) | (with_reducible refine CD.wk_au ?_) | (with_reducible refine W5.o ?_; constructor) | ((with_reducible refine W6.o ?_; constructor) <;> intro hB))
          all_goals ((conv => whnf); (try dsimp only); (try simp only [Nat.succ_eq_add_one, Nat.le_eq, castL_self]); (try omega))
          all_goals (try (first | omega | (simp only [lens] <;> omega)))
          all_goals first
            | rfl
            | exact z1
            | exact z2
            | exact z3
            | exact y2
            | exact y5
            | exact f0
            | omega
            | trace_state
        | true =>
          have hsome : (runP false (openS s) (cntT (openS s))).isSome = true := by rw [← okB_eq]; exact hk
          obtain ⟨q1, q2, q3, q4, q5⟩ := runP_in (by omega) _ (runP_st4 hsome)
          dsimp only at q1 q2 q3 q4 q5
          have eK : (seg (stK false (openS s) (cntT (openS s))) 0 (List.length (stK false (openS s) (cntT (openS s))))) = stK false (openS s) (cntT (openS s)) := seg_all _ rfl
          have eX : (seg (stX false (openS s) (cntT (openS s))) 0 (List.length (stX false (openS s) (cntT (openS s))))) = stX false (openS s) (cntT (openS s)) := seg_all _ rfl
          have eC : (seg (stC false (openS s) (cntT (openS s))) 0 (List.length (stC false (openS s) (cntT (openS s))))) = stC false (openS s) (cntT (openS s)) := seg_all _ rfl
          have l1 : List.length (seg (stK false (openS s) (cntT (openS s))) 0 (List.length (stK false (openS s) (cntT (openS s))))) ≤ 4611686018427387904 := by rw [eK]; omega
          have l2 : List.length (seg (stX false (openS s) (cntT (openS s))) 0 (List.length (stX false (openS s) (cntT (openS s))))) ≤ 4611686018427387904 := by rw [eX]; omega
          have l3 : List.length (seg (stC false (openS s) (cntT (openS s))) 0 (List.length (stC false (openS s) (cntT (openS s))))) ≤ 4611686018427387904 := by rw [eC]; omega
          have dK : nodK s = stK false (openS s) (cntT (openS s)) := by unfold nodK; rw [eL]
          have dX : nodX s = stX false (openS s) (cntT (openS s)) := by unfold nodX; rw [eL]
          have dC : nodC s = stC false (openS s) (cntT (openS s)) := by unfold nodC; rw [eL]
          by_cases hf : fitP false (seg (stK false (openS s) (cntT (openS s))) 0 (List.length (stK false (openS s) (cntT (openS s))))) (seg (stX false (openS s) (cntT (openS s))) 0 (List.length (stX false (openS s) (cntT (openS s))))) (seg (stC false (openS s) (cntT (openS s))) 0 (List.length (stC false (openS s) (cntT (openS s)))))
          · have g1 := encE_0 hf
            by_cases he : encS false (seg (stK false (openS s) (cntT (openS s))) 0 (List.length (stK false (openS s) (cntT (openS s))))) (seg (stX false (openS s) (cntT (openS s))) 0 (List.length (stX false (openS s) (cntT (openS s))))) (seg (stC false (openS s) (cntT (openS s))) 0 (List.length (stC false (openS s) (cntT (openS s))))) = s
            · have g2 : sEq (encS false (seg (stK false (openS s) (cntT (openS s))) 0 (List.length (stK false (openS s) (cntT (openS s))))) (seg (stX false (openS s) (cntT (openS s))) 0 (List.length (stX false (openS s) (cntT (openS s))))) (seg (stC false (openS s) (cntT (openS s))) 0 (List.length (stC false (openS s) (cntT (openS s)))))) s = true := decide_eq_true he
              have hd : decP s := by
                refine ⟨⟨ho, h6, by rw [eL]; exact hk⟩, ?_, ?_⟩
                · rw [eL, dK, dX, dC, ← eK, ← eX, ← eC]; exact hf
                · rw [eL, dK, dX, dC, ← eK, ← eX, ← eC]; exact he
              obtain ⟨e1, e2, e3, e4, e5⟩ := dec_yes hd
              rw [e1, e2, e3, e4, e5, eL, dK, dX, dC]
              refine pure_of_loops tabPgI_ok (fuel := 3) (d := 6) _ hls ?_
              repeat' ((conv => whnf); first | (with_reducible first | (refine W1.o ?_; constructor) | rfl | exact castL_self _ _) | ((with_reducible refine V.same_t ?_); exact rfl) | ((with_reducible refine andB_room ?_ ?_ ?_); (· kernel_rfl); (· (first | omega | (simp only [lens] <;> omega)))) | ((with_reducible refine W2.o ?_; constructor); · (first | (with_reducible assumption) | (first | omega | (simp only [lens] <;> omega)))) | ((with_reducible refine W3.o ?_; constructor); · (first | (with_reducible assumption) | (first | omega | (simp only [lens] <;> omega)))) | ((with_reducible refine W4.o ?_; constructor); · (first | (with_reducible first | assumption | exact decide_eq_true rfl | exact sEq_self _) | ((with_reducible refine eqOK_i ?_); kernel_rfl) | (first | exact ho | exact f0 | exact g2))) | ((with_reducible refine iteB_f ?_ ?_); · (first | (with_reducible first | assumption | exact decide_eq_true rfl | exact sEq_self _) | ((with_reducible refine eqOK_i ?_); kernel_rfl) | (first | exact ho | exact f0 | exact g2))) | (with_reducible refine CD.wk_au ?_) | (with_reducible refine W5.o ?_; constructor) | ((with_reducible refine W6.o ?_; constructor) <;> intro hB))
              all_goals ((conv => whnf); (try dsimp only); (try simp only [Nat.succ_eq_add_one, Nat.le_eq, castL_self]); (try omega))
              all_goals (try (first | omega | (simp only [lens] <;> omega)))
              all_goals first
                | rfl
                | exact z1
                | exact z2
                | exact z3
                | exact y2
                | exact y5
                | exact f0
                | omega
                | (rw [eK, eX, eC])
                | trace_state
            · have g2 : sEq (encS false (seg (stK false (openS s) (cntT (openS s))) 0 (List.length (stK false (openS s) (cntT (openS s))))) (seg (stX false (openS s) (cntT (openS s))) 0 (List.length (stX false (openS s) (cntT (openS s))))) (seg (stC false (openS s) (cntT (openS s))) 0 (List.length (stC false (openS s) (cntT (openS s)))))) s = false := decide_eq_false he
              have hn : ¬ decP s := fun h => he (by
                have := h.2.2
                rw [eL, dK, dX, dC, ← eK, ← eX, ← eC] at this
                exact this)
              obtain ⟨e1, e2, e3, e4, e5⟩ := dec_no hn
              rw [e1, e2, e3, e4, e5]
              refine PureAt.val (v := .tup [.agg [.bool false, .nils, .nils, .nils], .int .i64 8]) ?_ fun φ => nil_node
              refine pure_of_loops tabPgI_ok (fuel := 3) (d := 6) _ hls ?_
              repeat' ((conv => whnf); first | (with_reducible first | (refine W1.o ?_; constructor) | rfl | exact castL_self _ _) | ((with_reducible refine V.same_t ?_); exact rfl) | ((with_reducible refine andB_room ?_ ?_ ?_); (· kernel_rfl); (· (first | omega | (simp only [lens] <;> omega)))) | ((with_reducible refine W2.o ?_; constructor); · (first | (with_reducible assumption) | (first | omega | (simp only [lens] <;> omega)))) | ((with_reducible refine W3.o ?_; constructor); · (first | (with_reducible assumption) | (first | omega | (simp only [lens] <;> omega)))) | ((with_reducible refine W4.o ?_; constructor); · (first | (with_reducible first | assumption | exact decide_eq_true rfl | exact sEq_self _) | ((with_reducible refine eqOK_i ?_); kernel_rfl) | (first | exact ho | exact f0 | exact g2))) | ((with_reducible refine iteB_f ?_ ?_); · (first | (with_reducible first | assumption | exact decide_eq_true rfl | exact sEq_self _) | ((with_reducible refine eqOK_i ?_); kernel_rfl) | (first | exact ho | exact f0 | exact g2))) | (with_reducible refine CD.wk_au ?_) | (with_reducible refine W5.o ?_; constructor) | ((with_reducible refine W6.o ?_; constructor) <;> intro hB))
              all_goals ((conv => whnf); (try dsimp only); (try simp only [Nat.succ_eq_add_one, Nat.le_eq, castL_self]); (try omega))
              all_goals (try (first | omega | (simp only [lens] <;> omega)))
              all_goals first
                | rfl
                | exact z1
                | exact z2
                | exact z3
                | exact y2
                | exact y5
                | exact f0
                | omega
                | trace_state
          · have g1 : ¬ @Eq Int (encE false (seg (stK false (openS s) (cntT (openS s))) 0 (List.length (stK false (openS s) (cntT (openS s))))) (seg (stX false (openS s) (cntT (openS s))) 0 (List.length (stX false (openS s) (cntT (openS s))))) (seg (stC false (openS s) (cntT (openS s))) 0 (List.length (stC false (openS s) (cntT (openS s)))))) 0 := by
              by_cases hm : mayP false (seg (stK false (openS s) (cntT (openS s))) 0 (List.length (stK false (openS s) (cntT (openS s))))) (seg (stX false (openS s) (cntT (openS s))) 0 (List.length (stX false (openS s) (cntT (openS s))))) (seg (stC false (openS s) (cntT (openS s))) 0 (List.length (stC false (openS s) (cntT (openS s)))))
              · rw [encE_3 hm (fun h => hf ⟨hm, h⟩)]; decide
              · rw [encE_2 hm]; decide
            have hn : ¬ decP s := fun h => hf (by
              have := h.2.1
              rw [eL, dK, dX, dC, ← eK, ← eX, ← eC] at this
              exact this)
            obtain ⟨e1, e2, e3, e4, e5⟩ := dec_no hn
            rw [e1, e2, e3, e4, e5]
            refine PureAt.val (v := .tup [.agg [.bool false, .nils, .nils, .nils], .int .i64 8]) ?_ fun φ => nil_node
            refine pure_of_loops tabPgI_ok (fuel := 3) (d := 6) _ hls ?_
            repeat' ((conv => whnf); first | (with_reducible first | (refine W1.o ?_; constructor) | rfl | exact castL_self _ _) | ((with_reducible refine V.same_t ?_); exact rfl) | ((with_reducible refine andB_room ?_ ?_ ?_); (· kernel_rfl); (· (first | omega | (simp only [lens] <;> omega)))) | ((with_reducible refine W2.o ?_; constructor); · (first | (with_reducible assumption) | (first | omega | (simp only [lens] <;> omega)))) | ((with_reducible refine W3.o ?_; constructor); · (first | (with_reducible assumption) | (first | omega | (simp only [lens] <;> omega)))) | ((with_reducible refine W4.o ?_; constructor); · (first | (with_reducible first | assumption | exact decide_eq_true rfl | exact sEq_self _) | ((with_reducible refine eqOK_i ?_); kernel_rfl) | (first | exact ho | exact f0))) | ((with_reducible refine iteB_f ?_ ?_); · (first | (with_reducible first | assumption | exact decide_eq_true rfl | exact sEq_self _) | ((with_reducible refine eqOK_i ?_); kernel_rfl) | (first | exact ho | exact f0))) | (with_reducible refine CD.wk_au ?_) | (with_reducible refine W5.o ?_; constructor) | ((with_reducible refine W6.o ?_; constructor) <;> intro hB))
            all_goals ((conv => whnf); (try dsimp only); (try simp only [Nat.succ_eq_add_one, Nat.le_eq, castL_self]); (try omega))
            all_goals (try (first | omega | (simp only [lens] <;> omega)))
            all_goals first
              | rfl
              | exact z1
              | exact z2
              | exact z3
              | exact y2
              | exact y5
              | exact f0
              | omega
              | trace_state
    · have hn : ¬ decP s := fun h => h6 h.1.2.1
      obtain ⟨e1, e2, e3, e4, e5⟩ := dec_no hn
      rw [e1, e2, e3, e4, e5]
      refine PureAt.val (v := .tup [.agg [.bool false, .nils, .nils, .nils], .int .i64 8]) ?_ fun φ => nil_node
      refine pure_of_W0 (tab := tabPgI) (fuel := 3) (d := 6) tabPgI_ok ?_
      repeat' ((conv => whnf); first | (with_reducible first | (refine W1.o ?_; constructor) | rfl | exact castL_self _ _) | ((with_reducible refine V.same_t ?_); exact rfl) | ((with_reducible refine andB_room ?_ ?_ ?_); (· kernel_rfl); (· (first | omega | (simp only [lens] <;> omega)))) | ((with_reducible refine W2.o ?_; constructor); · (first | (with_reducible assumption) | (first | omega | (simp only [lens] <;> omega)))) | ((with_reducible refine W3.o ?_; constructor); · (first | (with_reducible assumption) | (first | omega | (simp only [lens] <;> omega)))) | ((with_reducible refine W4.o ?_; constructor); · (first | (with_reducible first | assumption | exact decide_eq_true rfl | exact sEq_self _) | ((with_reducible refine eqOK_i ?_); kernel_rfl) | (exact ho))) | ((with_reducible refine iteB_f ?_ ?_); · (first | (with_reducible first | assumption | exact decide_eq_true rfl | exact sEq_self _) | ((with_reducible refine eqOK_i ?_); kernel_rfl) | (exact ho))) | (with_reducible refine W5.o ?_; constructor) | ((with_reducible refine W6.o ?_; constructor) <;> intro hB))
      all_goals ((conv => whnf); (try dsimp only); (try simp only [Nat.succ_eq_add_one, Nat.le_eq, castL_self]); (try omega))
      all_goals (try (first | omega | (simp only [lens] <;> omega)))
      all_goals rfl
end Go.Proofs.Ytlfhiophojahbaa
end

section
namespace Go.Proofs.Ytlfhiophojahbaa
open Go.Sym
set_option linter.unusedVariables false
noncomputable def decodeF (args : List V) : Option (List Bool × V) := match args with
  | [.str s] => some ([decide (s.size ≤ 300)], .tup [nodeV (decL s) (decK s) (decX s) (decC s), .int .i64 (decE s)])
  | _ => none
theorem decodeF_ok (args : List V) (c : List Bool) (v : V) (h : decodeF args = some (c, v)) (hc : allB c) : PureAt Try.prog 10 args v := by
  unfold decodeF at h
  split at h
  · cases h; exact decode_at _ (of_decide_eq_true hc.1)
  · cases h
end Go.Proofs.Ytlfhiophojahbaa
end

section
namespace Go.Proofs.Ytlfhiophojahbaa
open Go.Sym
set_option linter.unusedVariables false

theorem strOf_list (l : List Int) : (strOf l).data.toList = l.map fun n => UInt8.ofNat n.toNat := by
  unfold strOf
  rw [List.toList_toArray]
theorem bAt_str (A R : List Int) (x : Int) (h : 0 ≤ x ∧ x < 256) : bAt (strOf (A ++ x :: R)) A.length = x := by
  unfold bAt
  rw [strOf_list, List.map_append, List.map_cons, List.getD_eq_getElem?_getD, List.getElem?_append_right (by rw [List.length_map]; exact Nat.le_refl _), List.length_map, Nat.sub_self]
  show ((UInt8.ofNat x.toNat).toNat : Int) = x
  rw [UInt8.toNat_ofNat']
  omega
theorem ext_str (A R : List Int) (k : ByteArray) : (strOf (A ++ (bytesL k ++ R))).extract A.length (A.length + k.size) = k := by
  apply ByteArray.ext
  rw [ByteArray.data_extract]
  apply Array.ext'
  rw [Array.toList_extract, strOf_list, List.extract_eq_take_drop, List.map_append, List.map_append, List.drop_left' (by rw [List.length_map]), Nat.add_sub_cancel_left]
  have e : (bytesL k).map (fun n => UInt8.ofNat n.toNat) = k.data.toList := by
    have := strOf_bytesL k
    rw [← strOf_list, this]
  rw [e]
  have hs : k.data.toList.length = k.size := by rw [Array.length_toList]; rfl
  rw [List.take_left' hs]
theorem ofI_u (q : Nat) (hq : q < 4294967296) : ofI .u32 (q : Int) = q := by
  have h : ((ofI .u32 (q : Int) : Nat) : Int) = (q : Int) % ((kM .u32 : Nat) : Int) := modN_eq (kM .u32) (by decide) q
  have hk : ((kM .u32 : Nat) : Int) = 4294967296 := rfl
  rw [hk] at h
  omega
theorem lor_hi (x y k : Nat) (h : y < 2 ^ k) : Nat.lor (x * 2 ^ k) y = x * 2 ^ k + y := by
  have := Nat.two_pow_add_eq_or_of_lt (i := k) (b := y) h x
  rw [Nat.mul_comm x, this]
  rfl
theorem or4_eq (a b c d : Nat) (ha : a < 256) (hb : b < 256) (hc : c < 256) (hd : d < 256) : or4 a b c d = ((a * 16777216 + b * 65536 + c * 256 + d : Nat) : Int) := by
  have t24 : min (Int.toNat 24) 32 = 24 := rfl
  have t16 : min (Int.toNat 16) 32 = 16 := rfl
  have t8 : min (Int.toNat 8) 32 = 8 := rfl
  have p24 : (2 : Int) ^ 24 = 16777216 := rfl
  have p16 : (2 : Int) ^ 16 = 65536 := rfl
  have p8 : (2 : Int) ^ 8 = 256 := rfl
  have w : ∀ q : Nat, q < 4294967296 → IntKind.u32.wrap (Int.ofNat q) = (q : Int) := fun q h => wrap_u32 (by simp only [Int.ofNat_eq_natCast]; omega) (by simp only [Int.ofNat_eq_natCast]; omega)
  unfold or4
  rw [t24, t16, t8, p24, p16, p8]
  rw [show ((a : Nat) : Int) % 4294967296 * 16777216 % 4294967296 = ((a * 16777216 : Nat) : Int) by omega, ofI_u _ (by omega)]
  rw [show ((b : Nat) : Int) % 4294967296 * 65536 % 4294967296 = ((b * 65536 : Nat) : Int) by omega, ofI_u _ (by omega)]
  rw [show ((c : Nat) : Int) % 4294967296 * 256 % 4294967296 = ((c * 256 : Nat) : Int) by omega, ofI_u _ (by omega)]
  rw [show ((d : Nat) : Int) % 4294967296 = ((d : Nat) : Int) by omega, ofI_u _ (by omega)]
  rw [show Nat.lor (a * 16777216) (b * 65536) = a * 16777216 + b * 65536 from lor_hi a (b * 65536) 24 (by omega)]
  rw [w (a * 16777216 + b * 65536) (by omega), ofI_u _ (by omega)]
  rw [show Nat.lor (a * 16777216 + b * 65536) (c * 256) = a * 16777216 + b * 65536 + c * 256 by
    have := lor_hi (a * 256 + b) (c * 256) 16 (by omega)
    rw [show (a * 256 + b) * 2 ^ 16 = a * 16777216 + b * 65536 by omega] at this
    exact this]
  rw [w (a * 16777216 + b * 65536 + c * 256) (by omega), ofI_u _ (by omega)]
  rw [show Nat.lor (a * 16777216 + b * 65536 + c * 256) d = a * 16777216 + b * 65536 + c * 256 + d by
    have := lor_hi (a * 65536 + b * 256 + c) d 8 (by omega)
    rw [show (a * 65536 + b * 256 + c) * 2 ^ 8 = a * 16777216 + b * 65536 + c * 256 by omega] at this
    exact this]
  exact w _ (by omega)
theorem or4_be (n : Int) (h0 : 0 ≤ n) (h1 : n < 4294967296) : or4 (n / 2 ^ min (Int.toNat 24) 32 % 256) (n / 2 ^ min (Int.toNat 16) 32 % 256) (n / 2 ^ min (Int.toNat 8) 32 % 256) (n % 256) = n := by
  have t24 : min (Int.toNat 24) 32 = 24 := rfl
  have t16 : min (Int.toNat 16) 32 = 16 := rfl
  have t8 : min (Int.toNat 8) 32 = 8 := rfl
  have p24 : (2 : Int) ^ 24 = 16777216 := rfl
  have p16 : (2 : Int) ^ 16 = 65536 := rfl
  have p8 : (2 : Int) ^ 8 = 256 := rfl
  rw [t24, t16, t8, p24, p16, p8]
  obtain ⟨m, rfl⟩ := Int.eq_ofNat_of_zero_le h0
  have e := or4_eq (m / 16777216 % 256) (m / 65536 % 256) (m / 256 % 256) (m % 256) (by omega) (by omega) (by omega) (by omega)
  have q1 : ((m / 16777216 % 256 : Nat) : Int) = (m : Int) / 16777216 % 256 := by omega
  have q2 : ((m / 65536 % 256 : Nat) : Int) = (m : Int) / 65536 % 256 := by omega
  have q3 : ((m / 256 % 256 : Nat) : Int) = (m : Int) / 256 % 256 := by omega
  have q4 : ((m % 256 : Nat) : Int) = (m : Int) % 256 := by omega
  rw [q1, q2, q3, q4] at e
  rw [e]
  omega
theorem n4_str (A R : List Int) (n : Int) (h0 : 0 ≤ n) (h1 : n < 4294967296) : n4 (strOf (A ++ (be4 n ++ R))) A.length = n := by
  have e : ∀ (B : List Int) (x : Int) (Q : List Int), 0 ≤ x ∧ x < 256 → A ++ (be4 n ++ R) = B ++ x :: Q → bAt (strOf (A ++ (be4 n ++ R))) B.length = x := fun B x Q hx he => by rw [he]; exact bAt_str B Q x hx
  have m24 : 0 ≤ n / 2 ^ min (Int.toNat 24) 32 % 256 ∧ n / 2 ^ min (Int.toNat 24) 32 % 256 < 256 := by omega
  have m16 : 0 ≤ n / 2 ^ min (Int.toNat 16) 32 % 256 ∧ n / 2 ^ min (Int.toNat 16) 32 % 256 < 256 := by omega
  have m8 : 0 ≤ n / 2 ^ min (Int.toNat 8) 32 % 256 ∧ n / 2 ^ min (Int.toNat 8) 32 % 256 < 256 := by omega
  have m0 : 0 ≤ n % 256 ∧ n % 256 < 256 := by omega
  have g0 := e A _ (n / 2 ^ min (Int.toNat 16) 32 % 256 :: n / 2 ^ min (Int.toNat 8) 32 % 256 :: n % 256 :: R) m24 rfl
  have g1 := e (A ++ [n / 2 ^ min (Int.toNat 24) 32 % 256]) _ (n / 2 ^ min (Int.toNat 8) 32 % 256 :: n % 256 :: R) m16 (by rw [List.append_assoc]; rfl)
  have g2 := e (A ++ [n / 2 ^ min (Int.toNat 24) 32 % 256, n / 2 ^ min (Int.toNat 16) 32 % 256]) _ (n % 256 :: R) m8 (by rw [List.append_assoc]; rfl)
  have g3 := e (A ++ [n / 2 ^ min (Int.toNat 24) 32 % 256, n / 2 ^ min (Int.toNat 16) 32 % 256, n / 2 ^ min (Int.toNat 8) 32 % 256]) _ R m0 (by rw [List.append_assoc]; rfl)
  rw [List.length_append] at g1 g2 g3
  unfold n4
  rw [g0, show A.length + 1 = A.length + [n / 2 ^ min (Int.toNat 24) 32 % 256].length from rfl, g1, show A.length + 2 = A.length + [n / 2 ^ min (Int.toNat 24) 32 % 256, n / 2 ^ min (Int.toNat 16) 32 % 256].length from rfl, g2, show A.length + 3 = A.length + [n / 2 ^ min (Int.toNat 24) 32 % 256, n / 2 ^ min (Int.toNat 16) 32 % 256, n / 2 ^ min (Int.toNat 8) 32 % 256].length from rfl, g3]
  exact or4_be n h0 h1
theorem lay_pre (l : Bool) (K X : List ByteArray) (C : List Int) (i : Nat) : ∀ d, ∃ T, layN l K X C (i + d) = layN l K X C i ++ T
  | 0 => ⟨[], by rw [Nat.add_zero, List.append_nil]⟩
  | d + 1 => by
    obtain ⟨T, hT⟩ := lay_pre l K X C i d
    cases l with
    | true => exact ⟨T ++ ([((atS K (i + d)).size : Int) % 256] ++ bytesL (atS K (i + d)) ++ [((atS X (i + d)).size : Int) % 256] ++ bytesL (atS X (i + d))), by rw [← Nat.add_assoc, layN_leaf, hT]; simp only [List.append_assoc]⟩
    | false => exact ⟨T ++ ([((atS K (i + d)).size : Int) % 256] ++ bytesL (atS K (i + d)) ++ be4 (atI C (i + d + 1))), by rw [← Nat.add_assoc, layN_knot, hT]; simp only [List.append_assoc]⟩
theorem body_pre (l : Bool) (K X : List ByteArray) (C : List Int) {i : Nat} (h : i ≤ K.length) : ∃ R, bodyN l K X C = strOf (layN l K X C i ++ R) := by
  obtain ⟨T, hT⟩ := lay_pre l K X C i (K.length - i)
  rw [Nat.add_sub_cancel' h] at hT
  exact ⟨T ++ List.replicate (252 - (layN l K X C K.length).length) 0, by unfold bodyN; rw [hT, List.append_assoc]⟩
theorem len_mod {s : ByteArray} (h : s.size ≤ 96) : (s.size : Int) % 256 = (s.size : Int) := by omega
theorem lenP_of {t : ByteArray} {o : Nat} {s : ByteArray} (hs : s.size ≤ 96) (h : bAt t o = (s.size : Int) % 256) : lenP t o = s.size := by
  unfold lenP
  rw [h, len_mod hs]
  omega
noncomputable def stB (l : Bool) (K X : List ByteArray) (C : List Int) (i : Nat) : PS := (K.take i, if l = true then X.take i else [], if l = true then [] else C.take (i + 1), (layN l K X C i).length)
theorem run_leaf {K X : List ByteArray} {C : List Int} (h : fitP true K X C) : ∀ i, i ≤ K.length → runP true (bodyN true K X C) i = some (stB true K X C i)
  | 0, _ => by
    rw [runP_0]
    unfold stB startP
    rw [layN_leaf0]
    simp
  | i + 1, hi => by
    have hk := may_keys h.1 i (by omega)
    have hx := may_vals h.1 i (by have := may_x h.1; omega)
    obtain ⟨hxl, hcl⟩ := may_x h.1
    obtain ⟨R, hR⟩ := body_pre true K X C hi
    have ht := bodyN_size h
    have hl := layN_len_leaf K X C i
    have hsz : (layN true K X C (i + 1)).length + R.length = 252 := by rw [← List.length_append, ← strOf_size, ← hR, ht]
    rw [layN_leaf] at hR
    obtain ⟨t, et⟩ : ∃ t, bodyN true K X C = t := ⟨_, rfl⟩
    rw [runP_succ, run_leaf h i (by omega)]
    rw [et] at hR ht ⊢
    have f0 := bAt_str (layN true K X C i) (bytesL (atS K i) ++ ([((atS X i).size : Int) % 256] ++ (bytesL (atS X i) ++ R))) (((atS K i).size : Int) % 256) (by omega)
    have f1 := ext_str (layN true K X C i ++ [((atS K i).size : Int) % 256]) ([((atS X i).size : Int) % 256] ++ (bytesL (atS X i) ++ R)) (atS K i)
    have f2 := bAt_str (layN true K X C i ++ ([((atS K i).size : Int) % 256] ++ bytesL (atS K i))) (bytesL (atS X i) ++ R) (((atS X i).size : Int) % 256) (by omega)
    have f3 := ext_str (layN true K X C i ++ ([((atS K i).size : Int) % 256] ++ (bytesL (atS K i) ++ [((atS X i).size : Int) % 256]))) R (atS X i)
    have m1 : (layN true K X C i ++ [((atS K i).size : Int) % 256]).length = (layN true K X C i).length + 1 := by simp only [lens]
    have m2 : (layN true K X C i ++ ([((atS K i).size : Int) % 256] ++ bytesL (atS K i))).length = (layN true K X C i).length + 1 + (atS K i).size := by simp only [lens]; omega
    have m3 : (layN true K X C i ++ ([((atS K i).size : Int) % 256] ++ (bytesL (atS K i) ++ [((atS X i).size : Int) % 256]))).length = (layN true K X C i).length + 1 + (atS K i).size + 1 := by simp only [lens]; omega
    rw [m1] at f1
    rw [m2] at f2
    rw [m3] at f3
    have hQ : t = strOf (layN true K X C i ++ ([((atS K i).size : Int) % 256] ++ (bytesL (atS K i) ++ ([((atS X i).size : Int) % 256] ++ (bytesL (atS X i) ++ R))))) := by
      rw [hR]; simp only [List.append_assoc]
    have b0 : bAt t (layN true K X C i).length = ((atS K i).size : Int) % 256 := by rw [hQ]; exact f0
    have e0 : t.extract ((layN true K X C i).length + 1) ((layN true K X C i).length + 1 + (atS K i).size) = atS K i := by
      rw [List.append_assoc] at f1; rw [hQ]; exact f1
    have b1 : bAt t ((layN true K X C i).length + 1 + (atS K i).size) = ((atS X i).size : Int) % 256 := by
      rw [List.append_assoc, List.append_assoc] at f2; rw [hQ]; exact f2
    have e1 : t.extract ((layN true K X C i).length + 1 + (atS K i).size + 1) ((layN true K X C i).length + 1 + (atS K i).size + 1 + (atS X i).size) = atS X i := by
      simp only [List.append_assoc] at f3; rw [hQ]; exact f3
    have l0 := lenP_of (by omega) b0
    have l1 := lenP_of hx b1
    show stepP true t (stB true K X C i) = _
    have q1 : txP t (stB true K X C i).2.2.2 := by
      show txP t (layN true K X C i).length
      unfold txP
      rw [l0]; omega
    have q2 : txP t ((stB true K X C i).2.2.2 + 1 + lenP t (stB true K X C i).2.2.2) := by
      show txP t ((layN true K X C i).length + 1 + lenP t (layN true K X C i).length)
      unfold txP
      rw [l0, l1]; omega
    rw [stepP_leaf q1 q2]
    have w0 : txS t (layN true K X C i).length = atS K i := by unfold txS; rw [l0]; exact e0
    have w1 : txS t ((layN true K X C i).length + 1 + (atS K i).size) = atS X i := by unfold txS; rw [l1]; exact e1
    have z1 : (stB true K X C i).1 = K.take i := rfl
    have z2 : (stB true K X C i).2.1 = X.take i := rfl
    have z3 : (stB true K X C i).2.2.1 = [] := rfl
    have z4 : (stB true K X C i).2.2.2 = (layN true K X C i).length := rfl
    rw [z1, z2, z3, z4, l0, w0, w1, l1]
    unfold stB
    rw [List.take_succ_eq_append_getElem (by omega : i < K.length), List.take_succ_eq_append_getElem (by omega : i < X.length), atS_lt (by omega : i < K.length), atS_lt (by omega : i < X.length), hl, atS_lt (by omega : i < K.length), atS_lt (by omega : i < X.length)]
    simp only [if_true, Option.some.injEq, Prod.mk.injEq, true_and]
    omega
theorem run_knot {K X : List ByteArray} {C : List Int} (h : fitP false K X C) (hz : ∀ c ∈ C, 0 ≤ c ∧ c < 4294967296) : ∀ i, i ≤ K.length → runP false (bodyN false K X C) i = some (stB false K X C i)
  | 0, _ => by
    have hkl := h.1.2.1
    obtain ⟨hxl, hcl⟩ := may_c h.1
    obtain ⟨R, hR⟩ := body_pre false K X C (Nat.zero_le K.length)
    have hc0 : atI C 0 = C[0] := atI_lt (by omega)
    have hc := hz C[0] (List.getElem_mem _)
    rw [layN_knot0, hc0] at hR
    have e := n4_str [2, (K.length : Int) % 256] R C[0] hc.1 hc.2
    rw [List.append_assoc] at hR
    rw [runP_0, hR]
    unfold stB startP
    rw [layN_knot0]
    have e2 : n4 (strOf ([2, (K.length : Int) % 256] ++ (be4 C[0] ++ R))) 2 = C[0] := e
    have e3 : C.take 1 = [C[0]] := by
      have := List.take_succ_eq_append_getElem (show 0 < C.length by omega)
      simpa using this
    simp only [if_neg (show ¬ false = true by decide), e2, List.take_zero, Nat.zero_add, e3]
    rfl
  | i + 1, hi => by
    have hk := may_keys h.1 i (by omega)
    obtain ⟨hxl, hcl⟩ := may_c h.1
    obtain ⟨R, hR⟩ := body_pre false K X C hi
    have ht := bodyN_size h
    have hl := layN_len_knot K X C i
    have hsz : (layN false K X C (i + 1)).length + R.length = 252 := by rw [← List.length_append, ← strOf_size, ← hR, ht]
    have hc0 : atI C (i + 1) = C[i + 1] := atI_lt (by omega)
    have hc := hz C[i + 1] (List.getElem_mem _)
    rw [layN_knot, hc0] at hR
    obtain ⟨t, et⟩ : ∃ t, bodyN false K X C = t := ⟨_, rfl⟩
    rw [runP_succ, run_knot h hz i (by omega)]
    rw [et] at hR ht ⊢
    have f0 := bAt_str (layN false K X C i) (bytesL (atS K i) ++ (be4 C[i + 1] ++ R)) (((atS K i).size : Int) % 256) (by omega)
    have f1 := ext_str (layN false K X C i ++ [((atS K i).size : Int) % 256]) (be4 C[i + 1] ++ R) (atS K i)
    have f2 := n4_str (layN false K X C i ++ ([((atS K i).size : Int) % 256] ++ bytesL (atS K i))) R C[i + 1] hc.1 hc.2
    have m1 : (layN false K X C i ++ [((atS K i).size : Int) % 256]).length = (layN false K X C i).length + 1 := by simp only [lens]
    have m2 : (layN false K X C i ++ ([((atS K i).size : Int) % 256] ++ bytesL (atS K i))).length = (layN false K X C i).length + 1 + (atS K i).size := by simp only [lens]; omega
    rw [m1] at f1
    rw [m2] at f2
    have hQ : t = strOf (layN false K X C i ++ ([((atS K i).size : Int) % 256] ++ (bytesL (atS K i) ++ (be4 C[i + 1] ++ R)))) := by
      rw [hR]; simp only [List.append_assoc]
    have b0 : bAt t (layN false K X C i).length = ((atS K i).size : Int) % 256 := by rw [hQ]; exact f0
    have e0 : t.extract ((layN false K X C i).length + 1) ((layN false K X C i).length + 1 + (atS K i).size) = atS K i := by
      rw [List.append_assoc] at f1; rw [hQ]; exact f1
    have e1 : n4 t ((layN false K X C i).length + 1 + (atS K i).size) = C[i + 1] := by
      rw [List.append_assoc, List.append_assoc] at f2; rw [hQ]; exact f2
    have l0 := lenP_of (by omega) b0
    show stepP false t (stB false K X C i) = _
    have q1 : txP t (stB false K X C i).2.2.2 := by
      show txP t (layN false K X C i).length
      unfold txP
      rw [l0]; omega
    have q2 : (stB false K X C i).2.2.2 + 1 + lenP t (stB false K X C i).2.2.2 + 4 ≤ t.size := by
      show (layN false K X C i).length + 1 + lenP t (layN false K X C i).length + 4 ≤ t.size
      rw [l0]; omega
    rw [stepP_knot q1 q2]
    have w0 : txS t (layN false K X C i).length = atS K i := by unfold txS; rw [l0]; exact e0
    have z1 : (stB false K X C i).1 = K.take i := rfl
    have z2 : (stB false K X C i).2.1 = [] := rfl
    have z3 : (stB false K X C i).2.2.1 = C.take (i + 1) := rfl
    have z4 : (stB false K X C i).2.2.2 = (layN false K X C i).length := rfl
    rw [z1, z2, z3, z4, l0, w0, e1]
    unfold stB
    rw [List.take_succ_eq_append_getElem (by omega : i < K.length), List.take_succ_eq_append_getElem (by omega : i + 1 < C.length), atS_lt (by omega : i < K.length), hl, atS_lt (by omega : i < K.length)]
    simp only [if_neg (show ¬ false = true by decide), Option.some.injEq, Prod.mk.injEq, true_and]
    omega
theorem run_back {l : Bool} {K X : List ByteArray} {C : List Int} (h : fitP l K X C) (hz : ∀ c ∈ C, 0 ≤ c ∧ c < 4294967296) : runP l (bodyN l K X C) K.length = some (K, X, C, (layN l K X C K.length).length) := by
  cases l with
  | true =>
    obtain ⟨hx, hc⟩ := may_x h.1
    rw [run_leaf h _ (Nat.le_refl _)]
    unfold stB
    rw [if_pos rfl, if_pos rfl, List.take_of_length_le (Nat.le_refl _), List.take_of_length_le (by omega), List.eq_nil_of_length_eq_zero hc]
  | false =>
    obtain ⟨hx, hc⟩ := may_c h.1
    rw [run_knot h hz _ (Nat.le_refl _)]
    unfold stB
    rw [if_neg (by decide), if_neg (by decide), List.take_of_length_le (Nat.le_refl _), List.take_of_length_le (by omega), List.eq_nil_of_length_eq_zero hx]
theorem body_head {l : Bool} {K X : List ByteArray} {C : List Int} (h : fitP l K X C) : leafT (bodyN l K X C) = l ∧ cntT (bodyN l K X C) = K.length := by
  obtain ⟨R, hR⟩ := body_pre l K X C (Nat.zero_le K.length)
  have hK := h.1.2.2.1
  unfold leafT cntT lenP
  cases l with
  | true =>
    rw [layN_leaf0] at hR
    rw [hR]
    have e0 := bAt_str [] ((K.length : Int) % 256 :: R) 1 (by decide)
    have e1 := bAt_str [1] R ((K.length : Int) % 256) (by omega)
    have e0 : bAt (strOf ([1, (K.length : Int) % 256] ++ R)) 0 = 1 := e0
    have e1 : bAt (strOf ([1, (K.length : Int) % 256] ++ R)) 1 = (K.length : Int) % 256 := e1
    rw [e0, e1]
    exact ⟨rfl, by omega⟩
  | false =>
    rw [layN_knot0, List.append_assoc] at hR
    rw [hR]
    have e0 := bAt_str [] ((K.length : Int) % 256 :: (be4 (atI C 0) ++ R)) 2 (by decide)
    have e1 := bAt_str [2] (be4 (atI C 0) ++ R) ((K.length : Int) % 256) (by omega)
    have e0 : bAt (strOf ([2, (K.length : Int) % 256] ++ (be4 (atI C 0) ++ R))) 0 = 2 := e0
    have e1 : bAt (strOf ([2, (K.length : Int) % 256] ++ (be4 (atI C 0) ++ R))) 1 = (K.length : Int) % 256 := e1
    rw [e0, e1]
    exact ⟨rfl, by omega⟩
theorem dec_back {l : Bool} {K X : List ByteArray} {C : List Int} (h : fitP l K X C) (hz : ∀ c ∈ C, 0 ≤ c ∧ c < 4294967296) : decL (encS l K X C) = l ∧ decK (encS l K X C) = K ∧ decX (encS l K X C) = X ∧ decC (encS l K X C) = C ∧ decE (encS l K X C) = 0 := by
  have es := encS_yes h
  obtain ⟨o1, o2⟩ := open_seal (bodyN l K X C)
  have ht := bodyN_size h
  obtain ⟨h1, h2⟩ := body_head h
  have hr := run_back h hz
  obtain ⟨k1, k2, k3, k4⟩ := st_of hr
  have g1 : nodK (encS l K X C) = K := by unfold nodK; rw [es, o2, h1, h2]; exact k1
  have g2 : nodX (encS l K X C) = X := by unfold nodX; rw [es, o2, h1, h2]; exact k2
  have g3 : nodC (encS l K X C) = C := by unfold nodC; rw [es, o2, h1, h2]; exact k3
  have g0 : leafT (openS (encS l K X C)) = l := by rw [es, o2]; exact h1
  have hd : decP (encS l K X C) := by
    refine ⟨⟨by rw [es]; exact o1, by rw [es, sealS_size, ht], ?_⟩, ?_, ?_⟩
    · rw [es, o2, h1, h2, okB_eq, hr]; rfl
    · rw [g0, g1, g2, g3]; exact h
    · rw [g0, g1, g2, g3]
  obtain ⟨e1, e2, e3, e4, e5⟩ := dec_yes hd
  rw [e1, e2, e3, e4, e5]
  exact ⟨g0, g1, g2, g3, rfl⟩
end Go.Proofs.Ytlfhiophojahbaa
end

section
namespace Go.Proofs.Ytlfhiophojahbaa
open Go.Sym
set_option linter.unusedVariables false
set_option linter.unusedSimpArgs false
set_option maxRecDepth 100000
set_option maxHeartbeats 4000000
theorem wk_k : atS ([⟨#[97]⟩] : List ByteArray) 0 = ⟨#[97]⟩ := rowAt_oneS _
theorem wk_x : atS ([⟨#[120, 121]⟩] : List ByteArray) 0 = ⟨#[120, 121]⟩ := rowAt_oneS _
theorem wk_len : (layN true ([⟨#[97]⟩] : List ByteArray) ([⟨#[120, 121]⟩] : List ByteArray) [] (0 + 1)).length = 7 := by
  rw [layN_len_leaf, layN_leaf0, wk_k, wk_x]; rfl
theorem wk_fit : fitP true ([⟨#[97]⟩] : List ByteArray) ([⟨#[120, 121]⟩] : List ByteArray) [] := by
  refine ⟨⟨⟨rfl, rfl⟩, Nat.zero_lt_one, (by decide), (keysB_iff _).2 ?_, (valsB_iff _).2 ?_, (kidsB_iff _).2 ?_⟩, ?_⟩
  · intro j hj
    have hj0 : j = 0 := Nat.lt_one_iff.1 hj
    subst hj0
    rw [ahS_0, wk_k]
    exact ⟨by decide +kernel, by decide⟩
  · intro j hj
    have hj0 : j = 0 := Nat.lt_one_iff.1 hj
    subst hj0
    rw [wk_x]; decide
  · intro j hj
    exact absurd hj (Nat.not_lt_zero j)
  · exact Nat.le_trans (Nat.le_of_eq wk_len) (by decide)
theorem wk_siz : sizN true ([⟨#[97]⟩] : List ByteArray) ([⟨#[120, 121]⟩] : List ByteArray) [] = 11 := by
  rw [sizN_yes wk_fit.1]
  show ((layN true ([⟨#[97]⟩] : List ByteArray) ([⟨#[120, 121]⟩] : List ByteArray) [] (0 + 1)).length : Int) + 4 = 11
  rw [wk_len]; rfl
theorem wk_size : (encS true ([⟨#[97]⟩] : List ByteArray) ([⟨#[120, 121]⟩] : List ByteArray) []).size = 256 := by
  rw [encS_yes wk_fit, sealS_size]
  have := bodyN_size wk_fit
  omega
noncomputable def tabPgW : Tab := oneTab 16 encodeF (oneTab 10 decodeF (oneTab 31 sizeF (oneTab 17 fitsF (oneTab 12 sameNF noTab))))
theorem tabPgW_ok : TabOK Try.prog tabPgW := oneTab_ok encodeF_ok (oneTab_ok decodeF_ok (oneTab_ok sizeF_ok (oneTab_ok fitsF_ok (oneTab_ok sameNF_ok noTab_ok))))
theorem works07_at : PureAt Try.prog 14 [] (.bool true) := by
  have f1 : encE true (seg ([⟨#[97]⟩] : List ByteArray) 0 1) (seg ([⟨#[120, 121]⟩] : List ByteArray) 0 1) [] = 0 := encE_0 wk_fit
  have f2 : (encS true (seg ([⟨#[97]⟩] : List ByteArray) 0 1) (seg ([⟨#[120, 121]⟩] : List ByteArray) 0 1) []).size = 256 := wk_size
  obtain ⟨b1, b2, b3, b4, b5⟩ : decL (encS true (seg ([⟨#[97]⟩] : List ByteArray) 0 1) (seg ([⟨#[120, 121]⟩] : List ByteArray) 0 1) []) = true ∧ decK (encS true (seg ([⟨#[97]⟩] : List ByteArray) 0 1) (seg ([⟨#[120, 121]⟩] : List ByteArray) 0 1) []) = (seg ([⟨#[97]⟩] : List ByteArray) 0 1) ∧ decX (encS true (seg ([⟨#[97]⟩] : List ByteArray) 0 1) (seg ([⟨#[120, 121]⟩] : List ByteArray) 0 1) []) = (seg ([⟨#[120, 121]⟩] : List ByteArray) 0 1) ∧ decC (encS true (seg ([⟨#[97]⟩] : List ByteArray) 0 1) (seg ([⟨#[120, 121]⟩] : List ByteArray) 0 1) []) = [] ∧ decE (encS true (seg ([⟨#[97]⟩] : List ByteArray) 0 1) (seg ([⟨#[120, 121]⟩] : List ByteArray) 0 1) []) = 0 := dec_back wk_fit (fun c hc => by cases hc)
  have f3 : sizN true (seg ([⟨#[97]⟩] : List ByteArray) 0 1) (seg ([⟨#[120, 121]⟩] : List ByteArray) 0 1) [] = 11 := wk_siz
  have f4 : fitB true (seg ([⟨#[97]⟩] : List ByteArray) 0 1) (seg ([⟨#[120, 121]⟩] : List ByteArray) 0 1) [] = true := (fitB_iff _ _ _ _).2 wk_fit
  have g1 : eqLs (decK (encS true (seg ([⟨#[97]⟩] : List ByteArray) 0 1) (seg ([⟨#[120, 121]⟩] : List ByteArray) 0 1) [])) (seg ([⟨#[97]⟩] : List ByteArray) 0 1) = true := by rw [b2]; exact eqLs_self _
  have g2 : eqLs (decX (encS true (seg ([⟨#[97]⟩] : List ByteArray) 0 1) (seg ([⟨#[120, 121]⟩] : List ByteArray) 0 1) [])) (seg ([⟨#[120, 121]⟩] : List ByteArray) 0 1) = true := by rw [b3]; exact eqLs_self _
  have g3 : eqIs (decC (encS true (seg ([⟨#[97]⟩] : List ByteArray) 0 1) (seg ([⟨#[120, 121]⟩] : List ByteArray) 0 1) [])) [] = true := by rw [b4]; exact eqIs_self _
  have n1 : (decK (encS true (seg ([⟨#[97]⟩] : List ByteArray) 0 1) (seg ([⟨#[120, 121]⟩] : List ByteArray) 0 1) [])).length = 1 := by rw [b2]; rfl
  have n2 : (decX (encS true (seg ([⟨#[97]⟩] : List ByteArray) 0 1) (seg ([⟨#[120, 121]⟩] : List ByteArray) 0 1) [])).length = 1 := by rw [b3]; rfl
  have n3 : (decC (encS true (seg ([⟨#[97]⟩] : List ByteArray) 0 1) (seg ([⟨#[120, 121]⟩] : List ByteArray) 0 1) [])).length = 0 := by rw [b4]; rfl
  refine pure_of_W0 (tab := tabPgW) (fuel := 3) (d := 5) tabPgW_ok ?_
  repeat' ((conv => whnf); first | (with_reducible first | (refine W1.o ?_; constructor) | rfl | exact castL_self _ _) | ((with_reducible refine V.same_t ?_); exact rfl) | ((with_reducible refine andB_room ?_ ?_ ?_); (· kernel_rfl); (· (first | omega | (simp only [lens] <;> omega)))) | ((with_reducible refine W2.o ?_; constructor); · (first | (with_reducible assumption) | (first | omega | (simp only [lens] <;> omega)))) | ((with_reducible refine W3.o ?_; constructor); · (first | (with_reducible assumption) | (first | omega | (simp only [lens] <;> omega)))) | ((with_reducible refine W4.o ?_; constructor); · (first | (with_reducible first | assumption | exact decide_eq_true rfl | exact sEq_self _) | ((with_reducible refine eqOK_i ?_); kernel_rfl) | (first | exact f4 | exact g1 | exact g2 | exact g3 | exact b1))) | ((with_reducible refine iteB_f ?_ ?_); · (first | (with_reducible first | assumption | exact decide_eq_true rfl | exact sEq_self _) | ((with_reducible refine eqOK_i ?_); kernel_rfl) | (first | exact f4 | exact g1 | exact g2 | exact g3 | exact b1))) | (with_reducible refine W5.o ?_; constructor) | ((with_reducible refine W6.o ?_; constructor) <;> intro hB))
  all_goals ((conv => whnf); (try dsimp only); (try simp only [Nat.succ_eq_add_one, Nat.le_eq, castL_self]); (try omega))
  all_goals (try (first | omega | (simp only [lens] <;> omega)))
  all_goals first
    | (rw [f4]; rfl)
    | trace_state
noncomputable def true07F (args : List V) : Option (List Bool × V) := match args with
  | [] => some ([], .bool true)
  | _ => none
theorem true07F_ok (args : List V) (c : List Bool) (v : V) (h : true07F args = some (c, v)) (_ : allB c) : PureAt Try.prog 14 args v := by
  unfold true07F at h
  split at h
  · cases h; exact works07_at
  · cases h
end Go.Proofs.Ytlfhiophojahbaa
end

section
namespace Go.Proofs.Ytlfhiophojahbaa
open Go.Sym
set_option linter.unusedVariables false
set_option linter.unusedSimpArgs false
set_option maxRecDepth 100000
set_option maxHeartbeats 4000000
noncomputable def keyS : Int → ByteArray := hide fun n => strOf [107, (97 + n / 16) % 256, (97 + n % 16) % 256]
theorem keyS_eq (n : Int) : keyS n = strOf [107, (97 + n / 16) % 256, (97 + n % 16) % 256] := by unfold keyS; rw [hide_eq]
theorem key_at (n : Int) (hn : 0 ≤ n ∧ n < 256) : PureAt Try.prog 35 [.int .u8 n] (.str (keyS n)) := by
  rw [keyS_eq]
  refine pure_of_W0 (tab := noTab) (fuel := 3) (d := 4) noTab_ok ?_
  repeat' ((conv => whnf); first | (with_reducible first | (refine W1.o ?_; constructor) | rfl | exact castL_self _ _) | ((with_reducible refine V.same_t ?_); exact rfl) | ((with_reducible refine andB_room ?_ ?_ ?_); (· kernel_rfl); (· (first | omega | (simp only [lens] <;> omega)))) | ((with_reducible refine W2.o ?_; constructor); · (first | (with_reducible assumption) | (first | omega | (simp only [lens] <;> omega)))) | ((with_reducible refine W3.o ?_; constructor); · (first | (with_reducible assumption) | (first | omega | (simp only [lens] <;> omega)))) | ((with_reducible refine W4.o ?_; constructor); · (first | (with_reducible first | assumption | exact decide_eq_true rfl | exact sEq_self _) | ((with_reducible refine eqOK_i ?_); kernel_rfl))) | ((with_reducible refine iteB_f ?_ ?_); · (first | (with_reducible first | assumption | exact decide_eq_true rfl | exact sEq_self _) | ((with_reducible refine eqOK_i ?_); kernel_rfl))) | (with_reducible refine W5.o ?_; constructor) | ((with_reducible refine W6.o ?_; constructor) <;> intro hB))
  all_goals ((conv => whnf); (try dsimp only); (try simp only [Nat.succ_eq_add_one, Nat.le_eq, castL_self]); (try omega))
  all_goals (try (first | omega | (simp only [lens] <;> omega)))
  all_goals first
    | rfl
    | trace_state
noncomputable def keyNF (args : List V) : Option (List Bool × V) := match args with
  | [.int .u8 n] => some ([leI 0 n, ltI n 256], .str (keyS n))
  | _ => none
theorem keyNF_ok (args : List V) (c : List Bool) (v : V) (h : keyNF args = some (c, v)) (hc : allB c) : PureAt Try.prog 35 args v := by
  unfold keyNF at h
  split at h
  · cases h
    obtain ⟨c1, c2, _⟩ := hc
    rw [leI_eq] at c1
    rw [ltI_eq] at c2
    exact key_at _ ⟨of_decide_eq_true c1, of_decide_eq_true c2⟩
  · cases h
end Go.Proofs.Ytlfhiophojahbaa
end

section
namespace Go.Proofs.Ytlfhiophojahbaa
open Go.Sym
set_option linter.unusedVariables false
set_option linter.unusedSimpArgs false
set_option maxRecDepth 100000
set_option maxHeartbeats 4000000
section
variable (l : Bool) (K X : List ByteArray) (C : List Int) (k v : ByteArray)
noncomputable def wtC (i : Nat) : CD := ⟨83, [(1, .str k), (2, .str v), (3, .ptr 0 0), (6, .ptr 1 0), (7, .ptr 2 0), (8, .bool (wD K X k v i)), (9, .int .i64 (i : Int))], [], [(0, .cells [.bool l, .lst [.str] K false, .lst [.str] X false, .lst [.int .u32] C false] 0 false), (1, .cells [.bool false, .nils, .nils, .nils] 0 false), (2, .cells [.bool true, .rs 3 0 (wK K X k v i).length (wK K X k v i).length false 1, .rs 4 0 (wX K X k v i).length (wX K X k v i).length false 1, .nils] 0 false), (3, .rows [.str] (wK K X k v i) 0 false), (4, .rows [.str] (wX K X k v i) 0 false)], 5⟩
theorem seg_snoc {α : Type} (A : List α) (x : α) : seg (seg A 0 A.length ++ seg [x] 0 1) 0 (A.length + (seg [x] 0 1).length) = A ++ [x] := by
  rw [seg_all A rfl, seg_one, seg_all _ (by rw [List.length_append])]
structure LenW (i : Nat) : Prop where
  len : (wX K X k v i).length = (wK K X k v i).length
  le : (wK K X k v i).length ≤ i + 1
theorem lenW_all : ∀ i, LenW K X k v i ∧ (wD K X k v i = false → (wK K X k v i).length = i)
  | 0 => by
    obtain ⟨e1, e2, e3⟩ := w_0 K X k v
    exact ⟨⟨by rw [e1, e2], by rw [e1]; exact Nat.zero_le _⟩, fun _ => by rw [e1]; rfl⟩
  | i + 1 => by
    obtain ⟨⟨h1, h2⟩, h3⟩ := lenW_all i
    cases hd : wD K X k v i with
    | true =>
      obtain ⟨e1, e2, e3⟩ := w_less K X k v (i := i) (.inl hd)
      rw [hd] at e3
      exact ⟨⟨by rw [e1, e2]; simp [h1], by rw [e1]; simp; omega⟩, fun q => by rw [e3] at q; cases q⟩
    | false =>
      have h3 := h3 hd
      cases hq : sLt (atS K i) k with
      | true =>
        obtain ⟨e1, e2, e3⟩ := w_less K X k v (i := i) (.inr hq)
        exact ⟨⟨by rw [e1, e2]; simp [h1], by rw [e1]; simp; omega⟩, fun q => by rw [e1]; simp [h3]⟩
      | false =>
        cases hz : sEq (atS K i) k with
        | true =>
          obtain ⟨e1, e2, e3⟩ := w_same K X k v (i := i) hd hq hz
          exact ⟨⟨by rw [e1, e2]; simp [h1], by rw [e1]; simp; omega⟩, fun q => by rw [e3] at q; cases q⟩
        | false =>
          obtain ⟨e1, e2, e3⟩ := w_more K X k v (i := i) hd hq hz
          exact ⟨⟨by rw [e1, e2]; simp [h1], by rw [e1]; simp; omega⟩, fun q => by rw [e3] at q; cases q⟩
theorem wt_loop (hX : X.length = K.length) (hK : K.length ≤ 1000000) (N : Nat) : LpD.ok Try.prog N 0 (bodyOf Try.prog 34) ⟨4, [(0, 0), (1, 1), (2, 2), (3, 3), (4, 4)], wtC l K X C k v 0, .leaf (.exit 0) (wtC l K X C k v K.length)⟩ := by
  refine LpD.ok_one (b := bodyAt Try.prog 34 4) rfl (loop_W noTab_ok (fuel := 3) (d := 4) (X := { i : Nat // i ≤ K.length }) (fun x => wtC l K X C k v x.1) (fun x => K.length - x.1)
    (fun _ => .leaf (.exit 0) (wtC l K X C k v K.length)) (fun _ => noLpW) (fun _ => noLp) (fun _ => noLp_ad) (fun _ => noLp_ok _) ?_ ⟨0, Nat.zero_le _⟩)
  rintro ⟨i, hi⟩
  dsimp only
  obtain ⟨⟨a1, a2⟩, _⟩ := lenW_all K X k v i
  obtain ⟨⟨b1, b2⟩, _⟩ := lenW_all K X k v (i + 1)
  rcases Nat.lt_or_ge i K.length with hlt | hge
  · cases hd : wD K X k v i with
    | true =>
      obtain ⟨e1, e2, e3⟩ := w_less K X k v (i := i) (.inl hd)
      have n1 : (wK K X k v (i + 1)).length = (wK K X k v i).length + 1 := by rw [e1, List.length_append]; rfl
      have hq : True := trivial
      have hz : True := trivial
      repeat' ((conv => whnf); first | (with_reducible first | (refine W1.o ?_; constructor) | rfl | exact castL_self _ _) | ((with_reducible refine V.same_t ?_); exact rfl) | ((with_reducible refine andB_room ?_ ?_ ?_); (· kernel_rfl); (· (first | omega | (simp only [lens] <;> omega)))) | ((with_reducible refine W2.o ?_; constructor); · (first | (with_reducible assumption) | (first | omega | (simp only [lens] <;> omega)))) | ((with_reducible refine W3.o ?_; constructor); · (first | (with_reducible assumption) | (first | omega | (simp only [lens] <;> omega)))) | ((with_reducible refine W4.o ?_; constructor); · (first | (with_reducible first | assumption | exact decide_eq_true rfl | exact sEq_self _) | ((with_reducible refine eqOK_i ?_); kernel_rfl) | (first | exact hd | exact hq | exact hz))) | ((with_reducible refine iteB_f ?_ ?_); · (first | (with_reducible first | assumption | exact decide_eq_true rfl | exact sEq_self _) | ((with_reducible refine eqOK_i ?_); kernel_rfl) | (first | exact hd | exact hq | exact hz))) | (refine ⟨⟨i + 1, hlt⟩, ?_, rfl, ?_⟩) | (with_reducible refine CD.wk_au ?_) | (with_reducible refine W5.o ?_; constructor) | ((with_reducible refine W6.o ?_; constructor) <;> intro hB))
      all_goals ((conv => whnf); (try dsimp only); (try simp only [Nat.succ_eq_add_one, Nat.le_eq, castL_self]); (try omega))
      all_goals (try (first | omega | (simp only [lens] <;> omega)))
      all_goals first
        | omega
        | (simp only [lens] <;> omega)
        | (rw [hd]; done)
        | (rw [e3, hd]; done)
        | (rw [e1, seg_all _ rfl]; rfl)
        | (rw [e2, seg_all _ rfl]; rfl)
        | exact e3.symm
        | (rw [e1, seg_snoc]; rfl)
        | (rw [e2, seg_snoc]; rfl)
        | trace_state
    | false =>
      cases hq : sLt (atS K i) k with
      | true =>
        obtain ⟨e1, e2, e3⟩ := w_less K X k v (i := i) (.inr hq)
        have n1 : (wK K X k v (i + 1)).length = (wK K X k v i).length + 1 := by rw [e1, List.length_append]; rfl
        have hz : True := trivial
        repeat' ((conv => whnf); first | (with_reducible first | (refine W1.o ?_; constructor) | rfl | exact castL_self _ _) | ((with_reducible refine V.same_t ?_); exact rfl) | ((with_reducible refine andB_room ?_ ?_ ?_); (· kernel_rfl); (· (first | omega | (simp only [lens] <;> omega)))) | ((with_reducible refine W2.o ?_; constructor); · (first | (with_reducible assumption) | (first | omega | (simp only [lens] <;> omega)))) | ((with_reducible refine W3.o ?_; constructor); · (first | (with_reducible assumption) | (first | omega | (simp only [lens] <;> omega)))) | ((with_reducible refine W4.o ?_; constructor); · (first | (with_reducible first | assumption | exact decide_eq_true rfl | exact sEq_self _) | ((with_reducible refine eqOK_i ?_); kernel_rfl) | (first | exact hd | exact hq | exact hz))) | ((with_reducible refine iteB_f ?_ ?_); · (first | (with_reducible first | assumption | exact decide_eq_true rfl | exact sEq_self _) | ((with_reducible refine eqOK_i ?_); kernel_rfl) | (first | exact hd | exact hq | exact hz))) | (refine ⟨⟨i + 1, hlt⟩, ?_, rfl, ?_⟩) | (with_reducible refine CD.wk_au ?_) | (with_reducible refine W5.o ?_; constructor) | ((with_reducible refine W6.o ?_; constructor) <;> intro hB))
        all_goals ((conv => whnf); (try dsimp only); (try simp only [Nat.succ_eq_add_one, Nat.le_eq, castL_self]); (try omega))
        all_goals (try (first | omega | (simp only [lens] <;> omega)))
        all_goals first
          | omega
          | (simp only [lens] <;> omega)
          | (rw [hd]; done)
          | (rw [e3, hd]; done)
          | (rw [e1, seg_all _ rfl]; rfl)
          | (rw [e2, seg_all _ rfl]; rfl)
          | exact e3.symm
          | (rw [e1, seg_snoc]; rfl)
          | (rw [e2, seg_snoc]; rfl)
          | trace_state
      | false =>
        cases hz : sEq (atS K i) k with
        | true =>
          obtain ⟨e1, e2, e3⟩ := w_same K X k v (i := i) hd hq hz
          have n1 : (wK K X k v (i + 1)).length = (wK K X k v i).length + 1 := by rw [e1, List.length_append]; rfl
          repeat' ((conv => whnf); first | (with_reducible first | (refine W1.o ?_; constructor) | rfl | exact castL_self _ _) | ((with_reducible refine V.same_t ?_); exact rfl) | ((with_reducible refine andB_room ?_ ?_ ?_); (· kernel_rfl); (· (first | omega | (simp only [lens] <;> omega)))) | ((with_reducible refine W2.o ?_; constructor); · (first | (with_reducible assumption) | (first | omega | (simp only [lens] <;> omega)))) | ((with_reducible refine W3.o ?_; constructor); · (first | (with_reducible assumption) | (first | omega | (simp only [lens] <;> omega)))) | ((with_reducible refine W4.o ?_; constructor); · (first | (with_reducible first | assumption | exact decide_eq_true rfl | exact sEq_self _) | ((with_reducible refine eqOK_i ?_); kernel_rfl) | (first | exact hd | exact hq | exact hz))) | ((with_reducible refine iteB_f ?_ ?_); · (first | (with_reducible first | assumption | exact decide_eq_true rfl | exact sEq_self _) | ((with_reducible refine eqOK_i ?_); kernel_rfl) | (first | exact hd | exact hq | exact hz))) | (refine ⟨⟨i + 1, hlt⟩, ?_, rfl, ?_⟩) | (with_reducible refine CD.wk_au ?_) | (with_reducible refine W5.o ?_; constructor) | ((with_reducible refine W6.o ?_; constructor) <;> intro hB))
          all_goals ((conv => whnf); (try dsimp only); (try simp only [Nat.succ_eq_add_one, Nat.le_eq, castL_self]); (try omega))
          all_goals (try (first | omega | (simp only [lens] <;> omega)))
          all_goals first
            | omega
            | (simp only [lens] <;> omega)
            | (rw [hd]; done)
            | (rw [e3, hd]; done)
            | (rw [e1, seg_all _ rfl]; rfl)
            | (rw [e2, seg_all _ rfl]; rfl)
            | exact e3.symm
            | (rw [e1, seg_snoc]; rfl)
            | (rw [e2, seg_snoc]; rfl)
            | trace_state
        | false =>
          obtain ⟨e1, e2, e3⟩ := w_more K X k v (i := i) hd hq hz
          have n1 : (wK K X k v (i + 1)).length = (wK K X k v i).length + 2 := by rw [e1, List.length_append, List.length_append]; rfl
          repeat' ((conv => whnf); first | (with_reducible first | (refine W1.o ?_; constructor) | rfl | exact castL_self _ _) | ((with_reducible refine V.same_t ?_); exact rfl) | ((with_reducible refine andB_room ?_ ?_ ?_); (· kernel_rfl); (· (first | omega | (simp only [lens] <;> omega)))) | ((with_reducible refine W2.o ?_; constructor); · (first | (with_reducible assumption) | (first | omega | (simp only [lens] <;> omega)))) | ((with_reducible refine W3.o ?_; constructor); · (first | (with_reducible assumption) | (first | omega | (simp only [lens] <;> omega)))) | ((with_reducible refine W4.o ?_; constructor); · (first | (with_reducible first | assumption | exact decide_eq_true rfl | exact sEq_self _) | ((with_reducible refine eqOK_i ?_); kernel_rfl) | (first | exact hd | exact hq | exact hz))) | ((with_reducible refine iteB_f ?_ ?_); · (first | (with_reducible first | assumption | exact decide_eq_true rfl | exact sEq_self _) | ((with_reducible refine eqOK_i ?_); kernel_rfl) | (first | exact hd | exact hq | exact hz))) | (refine ⟨⟨i + 1, hlt⟩, ?_, rfl, ?_⟩) | (with_reducible refine CD.wk_au ?_) | (with_reducible refine W5.o ?_; constructor) | ((with_reducible refine W6.o ?_; constructor) <;> intro hB))
          all_goals ((conv => whnf); (try dsimp only); (try simp only [Nat.succ_eq_add_one, Nat.le_eq, castL_self]); (try omega))
          all_goals (try (first | omega | (simp only [lens] <;> omega)))
          all_goals first
            | omega
            | (simp only [lens] <;> omega)
            | (rw [hd]; done)
            | (rw [e3, hd]; done)
            | (rw [e1, seg_all _ rfl]; rfl)
            | (rw [e2, seg_all _ rfl]; rfl)
            | exact e3.symm
            | (rw [e1, seg_snoc]; rfl)
            | (rw [e2, seg_snoc]; rfl)
            | trace_state
  · have he : i = K.length := Nat.le_antisymm hi hge
    subst he
    repeat' ((conv => whnf); first | (with_reducible first | (refine W1.o ?_; constructor) | rfl | exact castL_self _ _) | ((with_reducible refine V.same_t ?_); exact rfl) | ((with_reducible refine andB_room ?_ ?_ ?_); (· kernel_rfl); (· (first | omega | (simp only [lens] <;> omega)))) | ((with_reducible refine W2.o ?_; constructor); · (first | (with_reducible assumption) | (first | omega | (simp only [lens] <;> omega)))) | ((with_reducible refine W3.o ?_; constructor); · (first | (with_reducible assumption) | (first | omega | (simp only [lens] <;> omega)))) | ((with_reducible refine W4.o ?_; constructor); · (first | (with_reducible first | assumption | exact decide_eq_true rfl | exact sEq_self _) | ((with_reducible refine eqOK_i ?_); kernel_rfl))) | ((with_reducible refine iteB_f ?_ ?_); · (first | (with_reducible first | assumption | exact decide_eq_true rfl | exact sEq_self _) | ((with_reducible refine eqOK_i ?_); kernel_rfl))) | (with_reducible refine CD.wk_au ?_) | (with_reducible refine W5.o ?_; constructor) | ((with_reducible refine W6.o ?_; constructor) <;> intro hB))
    all_goals ((conv => whnf); (try dsimp only); (try simp only [Nat.succ_eq_add_one, Nat.le_eq, castL_self]); (try omega))
    all_goals (try (first | omega | (simp only [lens] <;> omega)))
    all_goals trace_state
theorem with_at (hX : X.length = K.length) (hK : K.length ≤ 1000000) : PureAt Try.prog 34 [nodeV l K X C, .str k, .str v] (.agg [.bool true, .lst [.str] (insK K X k v) false, .lst [.str] (insX K X k v) false, .nils]) := by
  obtain ⟨z1, z2, z3⟩ := w_0 K X k v
  have y1 : (wK K X k v 0).length = 0 := by rw [z1]; rfl
  have y2 : (wX K X k v 0).length = 0 := by rw [z2]; rfl
  obtain ⟨⟨a1, a2⟩, _⟩ := lenW_all K X k v K.length
  refine pure_of_loops noTab_ok (fuel := 3) (d := 4) [⟨4, [(0, 0), (1, 1), (2, 2)], wtC l K X C k v 0, .leaf (.exit 0) (wtC l K X C k v K.length)⟩] ?_ ?_
  · intro N y hy
    rw [List.mem_singleton.1 hy]
    exact wt_loop l K X C k v hX hK N
  · cases hd : wD K X k v K.length with
    | true =>
      obtain ⟨e1, e2⟩ := ins_yes hd
      repeat' ((conv => whnf); first | (with_reducible first | (refine W1.o ?_; constructor) | rfl | exact castL_self _ _) | ((with_reducible refine V.same_t ?_); exact rfl) | ((with_reducible refine andB_room ?_ ?_ ?_); (· kernel_rfl); (· (first | omega | (simp only [lens] <;> omega)))) | ((with_reducible refine W2.o ?_; constructor); · (first | (with_reducible assumption) | (first | omega | (simp only [lens] <;> omega)))) | ((with_reducible refine W3.o ?_; constructor); · (first | (with_reducible assumption) | (first | omega | (simp only [lens] <;> omega)))) | ((with_reducible refine W4.o ?_; constructor); · (first | (with_reducible first | assumption | exact decide_eq_true rfl | exact sEq_self _) | ((with_reducible refine eqOK_i ?_); kernel_rfl) | (first | exact hd | exact z3))) | ((with_reducible refine iteB_f ?_ ?_); · (first | (with_reducible first | assumption | exact decide_eq_true rfl | exact sEq_self _) | ((with_reducible refine eqOK_i ?_); kernel_rfl) | (first | exact hd | exact z3))) | (with_reducible refine CD.wk_au ?_) | (with_reducible refine W5.o ?_; constructor) | ((with_reducible refine W6.o ?_; constructor) <;> intro hB))
      all_goals ((conv => whnf); (try dsimp only); (try simp only [Nat.succ_eq_add_one, Nat.le_eq, castL_self]); (try omega))
      all_goals (try (first | omega | (simp only [lens] <;> omega)))
      all_goals first
        | omega
        | exact y1
        | exact y2
        | exact z3.symm
        | (rw [seg_all _ rfl, seg_all _ rfl, e1, e2]; done)
        | trace_state
    | false =>
      obtain ⟨e1, e2⟩ := ins_no hd
      repeat' ((conv => whnf); first | (with_reducible first | (refine W1.o ?_; constructor) | rfl | exact castL_self _ _) | ((with_reducible refine V.same_t ?_); exact rfl) | ((with_reducible refine andB_room ?_ ?_ ?_); (· kernel_rfl); (· (first | omega | (simp only [lens] <;> omega)))) | ((with_reducible refine W2.o ?_; constructor); · (first | (with_reducible assumption) | (first | omega | (simp only [lens] <;> omega)))) | ((with_reducible refine W3.o ?_; constructor); · (first | (with_reducible assumption) | (first | omega | (simp only [lens] <;> omega)))) | ((with_reducible refine W4.o ?_; constructor); · (first | (with_reducible first | assumption | exact decide_eq_true rfl | exact sEq_self _) | ((with_reducible refine eqOK_i ?_); kernel_rfl) | (first | exact hd | exact z3))) | ((with_reducible refine iteB_f ?_ ?_); · (first | (with_reducible first | assumption | exact decide_eq_true rfl | exact sEq_self _) | ((with_reducible refine eqOK_i ?_); kernel_rfl) | (first | exact hd | exact z3))) | (with_reducible refine CD.wk_au ?_) | (with_reducible refine W5.o ?_; constructor) | ((with_reducible refine W6.o ?_; constructor) <;> intro hB))
      all_goals ((conv => whnf); (try dsimp only); (try simp only [Nat.succ_eq_add_one, Nat.le_eq, castL_self]); (try omega))
      all_goals (try (first | omega | (simp only [lens] <;> omega)))
      all_goals first
        | omega
        | (simp only [lens] <;> omega)
        | exact y1
        | exact y2
        | exact z3.symm
        | (rw [seg_snoc, seg_snoc, e1, e2]; done)
        | trace_state
end
end Go.Proofs.Ytlfhiophojahbaa
end

section
namespace Go.Proofs.Ytlfhiophojahbaa
open Go.Sym
set_option linter.unusedVariables false
set_option linter.unusedSimpArgs false
set_option maxRecDepth 100000
set_option maxHeartbeats 4000000
noncomputable def valS : Int → ByteArray := hide fun n => strOf (List.replicate (Int.toNat (n % 97)) 0)
theorem valS_eq (n : Int) : valS n = strOf (List.replicate (Int.toNat (n % 97)) 0) := by unfold valS; rw [hide_eq]
theorem val_at (n : Int) (hn : 0 ≤ n ∧ n < 256) : PureAt Try.prog 36 [.int .u8 n] (.str (valS n)) := by
  rw [valS_eq]
  refine pure_of_W0 (tab := noTab) (fuel := 3) (d := 4) noTab_ok ?_
  repeat' ((conv => whnf); first | (with_reducible first | (refine W1.o ?_; constructor) | rfl | exact castL_self _ _) | ((with_reducible refine V.same_t ?_); exact rfl) | ((with_reducible refine andB_room ?_ ?_ ?_); (· kernel_rfl); (· (first | omega | (simp only [lens] <;> omega)))) | ((with_reducible refine W2.o ?_; constructor); · (first | (with_reducible assumption) | (first | omega | (simp only [lens] <;> omega)))) | ((with_reducible refine W3.o ?_; constructor); · (first | (with_reducible assumption) | (first | omega | (simp only [lens] <;> omega)))) | ((with_reducible refine W4.o ?_; constructor); · (first | (with_reducible first | assumption | exact decide_eq_true rfl | exact sEq_self _) | ((with_reducible refine eqOK_i ?_); kernel_rfl))) | ((with_reducible refine iteB_f ?_ ?_); · (first | (with_reducible first | assumption | exact decide_eq_true rfl | exact sEq_self _) | ((with_reducible refine eqOK_i ?_); kernel_rfl))) | (with_reducible refine W5.o ?_; constructor) | ((with_reducible refine W6.o ?_; constructor) <;> intro hB))
  all_goals ((conv => whnf); (try dsimp only); (try simp only [Nat.succ_eq_add_one, Nat.le_eq, castL_self]); (try omega))
  all_goals (try (first | omega | (simp only [lens] <;> omega)))
  all_goals first
    | rfl
    | (show 1 * (n % 97).toNat ≤ _; omega)
    | (rw [List.drop_zero, List.take_of_length_le (by rw [List.length_replicate]; exact Nat.le_refl _)]; done)
    | trace_state
noncomputable def valNF (args : List V) : Option (List Bool × V) := match args with
  | [.int .u8 n] => some ([leI 0 n, ltI n 256], .str (valS n))
  | _ => none
theorem valNF_ok (args : List V) (c : List Bool) (v : V) (h : valNF args = some (c, v)) (hc : allB c) : PureAt Try.prog 36 args v := by
  unfold valNF at h
  split at h
  · cases h
    obtain ⟨c1, c2, _⟩ := hc
    rw [leI_eq] at c1
    rw [ltI_eq] at c2
    exact val_at _ ⟨of_decide_eq_true c1, of_decide_eq_true c2⟩
  · cases h
noncomputable def withNF (args : List V) : Option (List Bool × V) := match args with
  | [.agg [.bool l, a, b, c], .str k, .str v] => (match ofLst [.str] a, ofLst [.str] b, ofLst [.int .u32] c with
    | some K, some X, some C => some ([decide (List.length (α := ByteArray) X = List.length (α := ByteArray) K), decide (List.length (α := ByteArray) K ≤ 1000000)], .agg [.bool true, .lst [.str] (insK K X k v) false, .lst [.str] (insX K X k v) false, .nils])
    | _, _, _ => none)
  | _ => none
theorem withNF_ok (args : List V) (c : List Bool) (v : V) (h : withNF args = some (c, v)) (hc : allB c) : PureAt Try.prog 34 args v := by
  unfold withNF at h
  split at h
  · rename_i l a b d k w
    split at h
    · rename_i K X C ha hb hd
      cases h
      obtain ⟨c1, c2, _⟩ := hc
      exact (with_at l K X C k w (of_decide_eq_true c1) (of_decide_eq_true c2)).weak fun φ => LRel.cons_of (node_rel ha hb hd) fun _ h => h
    · cases h
  · cases h
abbrev p8 : List Ty := [.int .u8, .int .u8]
noncomputable def hv0 (L : List (Int × Int)) : Nat → List ByteArray × List ByteArray
  | 0 => ([], [])
  | i + 1 => if fitB true (insK (hv0 L i).1 (hv0 L i).2 (keyS (Sym.rowAt p8 L i).1) (valS (Sym.rowAt p8 L i).2)) (insX (hv0 L i).1 (hv0 L i).2 (keyS (Sym.rowAt p8 L i).1) (valS (Sym.rowAt p8 L i).2)) [] = true
    then (insK (hv0 L i).1 (hv0 L i).2 (keyS (Sym.rowAt p8 L i).1) (valS (Sym.rowAt p8 L i).2), insX (hv0 L i).1 (hv0 L i).2 (keyS (Sym.rowAt p8 L i).1) (valS (Sym.rowAt p8 L i).2)) else hv0 L i
noncomputable def hvA : List (Int × Int) → Nat → List ByteArray := hide fun L i => (hv0 L i).1
noncomputable def hvB : List (Int × Int) → Nat → List ByteArray := hide fun L i => (hv0 L i).2
theorem hvA_eq (L : List (Int × Int)) (i : Nat) : hvA L i = (hv0 L i).1 := by unfold hvA; rw [hide_eq]
theorem hvB_eq (L : List (Int × Int)) (i : Nat) : hvB L i = (hv0 L i).2 := by unfold hvB; rw [hide_eq]
theorem hv_0 (L : List (Int × Int)) : hvA L 0 = [] ∧ hvB L 0 = [] := by rw [hvA_eq, hvB_eq]; exact ⟨rfl, rfl⟩
noncomputable abbrev nxA (L : List (Int × Int)) (i : Nat) : List ByteArray := insK (hvA L i) (hvB L i) (keyS (Sym.rowAt p8 L i).1) (valS (Sym.rowAt p8 L i).2)
noncomputable abbrev nxB (L : List (Int × Int)) (i : Nat) : List ByteArray := insX (hvA L i) (hvB L i) (keyS (Sym.rowAt p8 L i).1) (valS (Sym.rowAt p8 L i).2)
theorem hv_yes {L : List (Int × Int)} {i : Nat} (h : fitB true (nxA L i) (nxB L i) [] = true) : hvA L (i + 1) = nxA L i ∧ hvB L (i + 1) = nxB L i := by
  unfold nxA nxB at h ⊢
  rw [hvA_eq, hvB_eq] at h ⊢
  rw [hvA_eq, hvB_eq, hv0, if_pos h]
  exact ⟨rfl, rfl⟩
theorem hv_no {L : List (Int × Int)} {i : Nat} (h : fitB true (nxA L i) (nxB L i) [] = false) : hvA L (i + 1) = hvA L i ∧ hvB L (i + 1) = hvB L i := by
  unfold nxA nxB at h
  rw [hvA_eq, hvB_eq] at h ⊢
  rw [hvA_eq, hvB_eq, hv0, if_neg (by rw [h]; decide)]
  exact ⟨rfl, rfl⟩
theorem hv_or (L : List (Int × Int)) : ∀ i, (hvA L i = [] ∧ hvB L i = []) ∨ fitP true (hvA L i) (hvB L i) []
  | 0 => .inl (hv_0 L)
  | i + 1 => by
    cases h : fitB true (nxA L i) (nxB L i) [] with
    | true =>
      obtain ⟨e1, e2⟩ := hv_yes h
      rw [e1, e2]; exact .inr ((fitB_iff _ _ _ _).1 h)
    | false =>
      obtain ⟨e1, e2⟩ := hv_no h
      rw [e1, e2]; exact hv_or L i
structure LeafOK (K X : List ByteArray) : Prop where
  len : X.length = K.length
  le : K.length ≤ 125
  rise : riseL K
  small : ∀ x ∈ K, x.size ≤ 24
  smallX : ∀ x ∈ X, x.size ≤ 96
  tot : totL K X ≤ 250
theorem hv_ok (L : List (Int × Int)) (i : Nat) : LeafOK (hvA L i) (hvB L i) := by
  rcases hv_or L i with ⟨e1, e2⟩ | h
  · rw [e1, e2]
    exact ⟨rfl, Nat.zero_le _, rise_nil, (fun x h => by cases h), (fun x h => by cases h), Nat.zero_le _⟩
  · obtain ⟨g1, g2, g3, g4⟩ := may_all h.1
    have h2 := h.2
    rw [lay_all [] g1] at h2
    have := tot_ge (hvA L i) (hvB L i)
    exact ⟨g1, by omega, g2, g3, g4, by omega⟩
theorem sLt_of_size {x : ByteArray} (h : 0 < x.size) : sLt ⟨#[]⟩ x = true := by
  unfold sLt
  refine sLt_nil2 _ fun e => ?_
  have h2 : x.data.toList.length = x.size := by rw [Array.length_toList]; rfl
  rw [e] at h2
  have h3 : (0 : Nat) = x.size := h2
  omega
noncomputable abbrev lgK (a c : Int) : ByteArray := keyS a ++ strOf (List.take (Int.toNat (c % 22)) (List.drop 0 (List.replicate (Int.toNat (c % 22)) 0)))
noncomputable abbrev lgX (d : Int) : ByteArray := strOf (List.take (Int.toNat (d % 97)) (List.drop 0 (List.replicate (Int.toNat (d % 97)) 0)))
theorem lgK_size (a c : Int) (hc : 0 ≤ c) : 3 ≤ (lgK a c).size ∧ (lgK a c).size ≤ 24 := by
  unfold lgK
  rw [bs_app, keyS_eq, strOf_size, strOf_size, List.length_take, List.length_drop, List.length_replicate]
  simp only [List.length_cons, List.length_nil]
  omega
theorem lgX_size (d : Int) (hd : 0 ≤ d) : (lgX d).size ≤ 96 := by
  unfold lgX
  rw [strOf_size, List.length_take, List.length_drop, List.length_replicate]
  omega
theorem big_ok {K X : List ByteArray} (h : LeafOK K X) (a c d : Int) (hc : 0 ≤ c) (hd : 0 ≤ d) : mayP true (insK K X (lgK a c) (lgX d)) (insX K X (lgK a c) (lgX d)) [] ∧ totL (insK K X (lgK a c) (lgX d)) (insX K X (lgK a c) (lgX d)) ≤ 372 := by
  obtain ⟨s1, s2⟩ := lgK_size a c hc
  have s3 := lgX_size d hd
  have hp := sLt_of_size (x := lgK a c) (by omega)
  refine ⟨ins_may h.len (by have := h.le; omega) h.rise h.small h.smallX hp s2 s3, ?_⟩
  obtain ⟨_, _, _, _, _, _, g⟩ := ins_all h.len h.rise h.small h.smallX hp s2 s3
  have := h.tot
  omega
end Go.Proofs.Ytlfhiophojahbaa
end

section
namespace Go.Proofs.Ytlfhiophojahbaa
open Go.Sym
set_option linter.unusedVariables false
set_option linter.unusedSimpArgs false
set_option maxRecDepth 100000
set_option maxHeartbeats 4000000
noncomputable def tabPgHv : Tab := oneTab 35 keyNF (oneTab 36 valNF (oneTab 34 withNF (oneTab 17 fitsF (oneTab 29 splitF (oneTab 14 true07F noTab)))))
theorem tabPgHv_ok : TabOK Try.prog tabPgHv := oneTab_ok keyNF_ok (oneTab_ok valNF_ok (oneTab_ok withNF_ok (oneTab_ok fitsF_ok (oneTab_ok splitF_ok (oneTab_ok true07F_ok noTab_ok)))))
section
variable (L : List (Int × Int)) (a b c d : Int)
noncomputable def hvC (i : Nat) : CD := ⟨205, [(0, .lst p8 L false), (4, .rptr 0 0 0 1), (5, .rptr 1 0 0 1), (7, .ptr 2 0), (8, .int .i64 (i : Int))], [], [(0, .rows [.int .u8] [a, b] 0 false), (1, .rows [.int .u8] [c, d] 0 false), (2, .cells [.bool true, .lst [.str] (hvA L i) false, .lst [.str] (hvB L i) false, .lst [.int .u32] [] false] 0 false)], 3⟩
theorem hv_loop (hL : L.length ≤ 9223372036854775807) (hz : ∀ j, j < L.length → (0 ≤ (Sym.rowAt p8 L j).1 ∧ (Sym.rowAt p8 L j).1 < 256) ∧ 0 ≤ (Sym.rowAt p8 L j).2 ∧ (Sym.rowAt p8 L j).2 < 256) (N : Nat) : LpD.ok Try.prog N 0 (bodyOf Try.prog 8) ⟨3, [(0, 0), (1, 1), (2, 2)], hvC L a b c d 0, .leaf (.exit 0) (hvC L a b c d (min L.length 60))⟩ := by
  refine LpD.ok_one (b := bodyAt Try.prog 8 3) rfl (loop_W tabPgHv_ok (fuel := 3) (d := 4) (X := { i : Nat // i ≤ min L.length 60 }) (fun x => hvC L a b c d x.1) (fun x => min L.length 60 - x.1)
    (fun _ => .leaf (.exit 0) (hvC L a b c d (min L.length 60))) (fun _ => noLpW) (fun _ => noLp) (fun _ => noLp_ad) (fun _ => noLp_ok _) ?_ ⟨0, Nat.zero_le _⟩)
  rintro ⟨i, hi⟩
  dsimp only
  obtain ⟨g1, g2, g3, g4, g5, g6⟩ := hv_ok L i
  rcases Nat.lt_or_ge i (min L.length 60) with hlt | hge
  · obtain ⟨⟨y1, y2⟩, y3, y4⟩ := hz i (by omega)
    obtain ⟨⟨x1, x2⟩, x3, x4⟩ := hz i (by omega)
    have r1 : leI 0 (Sym.rowAt p8 L (Int.toNat (i : Int))).1 = true := by rw [leI_eq]; exact decide_eq_true y1
    have r2 : ltI (Sym.rowAt p8 L (Int.toNat (i : Int))).1 256 = true := by rw [ltI_eq]; exact decide_eq_true y2
    have r3 : leI 0 (Sym.rowAt p8 L (Int.toNat (i : Int))).2 = true := by rw [leI_eq]; exact decide_eq_true y3
    have r4 : ltI (Sym.rowAt p8 L (Int.toNat (i : Int))).2 256 = true := by rw [ltI_eq]; exact decide_eq_true y4
    have m2 : (nxB L i).length = (nxA L i).length := by
      have hp := ins_all g1 g3 g4 g5 (k := keyS (Sym.rowAt p8 L i).1) (v := valS (Sym.rowAt p8 L i).2) (sLt_of_size (by rw [keyS_eq, strOf_size]; exact Nat.succ_pos _)) (by rw [keyS_eq, strOf_size]; exact (show 3 ≤ 24 by decide)) (by rw [valS_eq, strOf_size, List.length_replicate]; omega)
      exact hp.1
    have m3 : (nxA L i).length ≤ 126 := by
      have hp := ins_all g1 g3 g4 g5 (k := keyS (Sym.rowAt p8 L i).1) (v := valS (Sym.rowAt p8 L i).2) (sLt_of_size (by rw [keyS_eq, strOf_size]; exact Nat.succ_pos _)) (by rw [keyS_eq, strOf_size]; exact (show 3 ≤ 24 by decide)) (by rw [valS_eq, strOf_size, List.length_replicate]; omega)
      have := hp.2.2.1
      unfold nxA
      omega
    have m4 : (nxA L i).length ≤ 4611686018427387904 := by omega
    have m5 : (nxB L i).length ≤ 4611686018427387904 := by omega
    cases hq : fitB true (nxA L i) (nxB L i) [] with
    | true =>
      obtain ⟨e1, e2⟩ := hv_yes hq
      repeat' ((conv => whnf); first | (with_reducible first | (refine W1.o ?_; constructor) | rfl | exact castL_self _ _) | ((with_reducible refine V.same_t ?_); exact rfl) | ((with_reducible refine andB_room ?_ ?_ ?_); (· kernel_rfl); (· (first | omega | (simp only [lens] <;> omega)))) | ((with_reducible refine W2.o ?_; constructor); · (first | (with_reducible assumption) | (first | omega | (simp only [lens] <;> omega)))) | ((with_reducible refine W3.o ?_; constructor); · (first | (with_reducible assumption) | (first | omega | (simp only [lens] <;> omega)))) | ((with_reducible refine W4.o ?_; constructor); · (first | (with_reducible first | assumption | exact decide_eq_true rfl | exact sEq_self _) | ((with_reducible refine eqOK_i ?_); kernel_rfl) | (first | exact hq | exact r1 | exact r2 | exact r3 | exact r4))) | ((with_reducible refine iteB_f ?_ ?_); · (first | (with_reducible first | assumption | exact decide_eq_true rfl | exact sEq_self _) | ((with_reducible refine eqOK_i ?_); kernel_rfl) | (first | exact hq | exact r1 | exact r2 | exact r3 | exact r4))) | (refine ⟨⟨i + 1, hlt⟩, ?_, rfl, ?_⟩) | (with_reducible refine CD.wk_au ?_) | (with_reducible refine W5.o ?_; constructor) | ((with_reducible refine W6.o ?_; constructor) <;> intro hB))
      all_goals ((conv => whnf); (try dsimp only); (try simp only [Nat.succ_eq_add_one, Nat.le_eq, castL_self]); (try omega))
      all_goals (try (first | omega | (simp only [lens] <;> omega)))
      all_goals first
        | omega
        | exact e1.symm
        | exact e2.symm
        | exact m4
        | exact m5
        | rfl
        | trace_state
    | false =>
      obtain ⟨e1, e2⟩ := hv_no hq
      repeat' ((conv => whnf); first | (with_reducible first | (refine W1.o ?_; constructor) | rfl | exact castL_self _ _) | ((with_reducible refine V.same_t ?_); exact rfl) | ((with_reducible refine andB_room ?_ ?_ ?_); (· kernel_rfl); (· (first | omega | (simp only [lens] <;> omega)))) | ((with_reducible refine W2.o ?_; constructor); · (first | (with_reducible assumption) | (first | omega | (simp only [lens] <;> omega)))) | ((with_reducible refine W3.o ?_; constructor); · (first | (with_reducible assumption) | (first | omega | (simp only [lens] <;> omega)))) | ((with_reducible refine W4.o ?_; constructor); · (first | (with_reducible first | assumption | exact decide_eq_true rfl | exact sEq_self _) | ((with_reducible refine eqOK_i ?_); kernel_rfl) | (first | exact hq | exact r1 | exact r2 | exact r3 | exact r4))) | ((with_reducible refine iteB_f ?_ ?_); · (first | (with_reducible first | assumption | exact decide_eq_true rfl | exact sEq_self _) | ((with_reducible refine eqOK_i ?_); kernel_rfl) | (first | exact hq | exact r1 | exact r2 | exact r3 | exact r4))) | (refine ⟨⟨i + 1, hlt⟩, ?_, rfl, ?_⟩) | (with_reducible refine CD.wk_au ?_) | (with_reducible refine W5.o ?_; constructor) | ((with_reducible refine W6.o ?_; constructor) <;> intro hB))
      all_goals ((conv => whnf); (try dsimp only); (try simp only [Nat.succ_eq_add_one, Nat.le_eq, castL_self]); (try omega))
      all_goals (try (first | omega | (simp only [lens] <;> omega)))
      all_goals first
        | omega
        | exact e1.symm
        | exact e2.symm
        | exact m4
        | exact m5
        | rfl
        | trace_state
  · have he : i = min L.length 60 := Nat.le_antisymm hi hge
    subst he
    repeat' ((conv => whnf); first | (with_reducible first | (refine W1.o ?_; constructor) | rfl | exact castL_self _ _) | ((with_reducible refine V.same_t ?_); exact rfl) | ((with_reducible refine andB_room ?_ ?_ ?_); (· kernel_rfl); (· (first | omega | (simp only [lens] <;> omega)))) | ((with_reducible refine W2.o ?_; constructor); · (first | (with_reducible assumption) | (first | omega | (simp only [lens] <;> omega)))) | ((with_reducible refine W3.o ?_; constructor); · (first | (with_reducible assumption) | (first | omega | (simp only [lens] <;> omega)))) | ((with_reducible refine W4.o ?_; constructor); · (first | (with_reducible first | assumption | exact decide_eq_true rfl | exact sEq_self _) | ((with_reducible refine eqOK_i ?_); kernel_rfl))) | ((with_reducible refine iteB_f ?_ ?_); · (first | (with_reducible first | assumption | exact decide_eq_true rfl | exact sEq_self _) | ((with_reducible refine eqOK_i ?_); kernel_rfl))) | (with_reducible refine CD.wk_au ?_) | (with_reducible refine W5.o ?_; constructor) | ((with_reducible refine W6.o ?_; constructor) <;> intro hB))
    all_goals ((conv => whnf); (try dsimp only); (try simp only [Nat.succ_eq_add_one, Nat.le_eq, castL_self]); (try omega))
    all_goals (try (first | omega | (simp only [lens] <;> omega)))
    all_goals trace_state
end
section
variable (K X A AX B BX : List ByteArray) (n : Nat)
noncomputable def cpC (i : Nat) : CD := ⟨205, [(10, .ptr 0 0), (11, .ptr 1 0), (12, .ptr 2 0), (15, .int .i64 (i : Int))], [], [(0, .cells [.bool true, .lst [.str] K false, .lst [.str] X false, .any] 0 false), (1, .cells [.any, .lst [.str] A false, .lst [.str] AX false, .any] 0 false), (2, .cells [.any, .lst [.str] B false, .lst [.str] BX false, .any] 0 false)], 3⟩
theorem cp_loop (hK : K.length ≤ 1000) (hX : X.length = K.length) (hA : A = K.take n) (hAX : AX = X.take n) (hB : B = K.drop n) (hBX : BX = X.drop n) (hn : n ≤ K.length) (N : Nat) : LpD.ok Try.prog N 0 (bodyOf Try.prog 8) ⟨15, [(0, 0), (1, 1), (2, 2)], cpC K X A AX B BX 0, .leaf (.exit 2) (cpC K X A AX B BX K.length)⟩ := by
  refine LpD.ok_one (b := bodyAt Try.prog 8 15) rfl (loop_W tabPgHv_ok (fuel := 3) (d := 4) (X := { i : Nat // i ≤ K.length }) (fun x => cpC K X A AX B BX x.1) (fun x => K.length - x.1)
    (fun _ => .leaf (.exit 2) (cpC K X A AX B BX K.length)) (fun _ => noLpW) (fun _ => noLp) (fun _ => noLp_ad) (fun _ => noLp_ok _) ?_ ⟨0, Nat.zero_le _⟩)
  rintro ⟨i, hi⟩
  dsimp only
  have l1 : A.length = n := by rw [hA, List.length_take]; omega
  have l2 : AX.length = n := by rw [hAX, List.length_take]; omega
  have l3 : B.length = K.length - n := by rw [hB, List.length_drop]
  have l4 : BX.length = K.length - n := by rw [hBX, List.length_drop]; omega
  rcases Nat.lt_or_ge i K.length with hlt | hge
  · rcases Nat.lt_or_ge i n with q1 | q1
    · have f1 : atS A i = atS K i := by subst hA; exact atS_take (by rw [l1]; exact q1)
      have f2 : atS AX i = atS X i := by subst hAX; exact atS_take (by rw [l2]; exact q1)
      have s1 : sEq (Sym.rowAt [.str] A (Int.toNat (i : Int))) (Sym.rowAt [.str] K (Int.toNat (i : Int))) = true := decide_eq_true f1
      have s2 : sEq (Sym.rowAt [.str] AX (Int.toNat (i : Int))) (Sym.rowAt [.str] X (Int.toNat (i : Int))) = true := decide_eq_true f2
      repeat' ((conv => whnf); first | (with_reducible first | (refine W1.o ?_; constructor) | rfl | exact castL_self _ _) | ((with_reducible refine V.same_t ?_); exact rfl) | ((with_reducible refine andB_room ?_ ?_ ?_); (· kernel_rfl); (· (first | omega | (simp only [lens] <;> omega)))) | ((with_reducible refine W2.o ?_; constructor); · (first | (with_reducible assumption) | (first | omega | (simp only [lens] <;> omega)))) | ((with_reducible refine W3.o ?_; constructor); · (first | (with_reducible assumption) | (first | omega | (simp only [lens] <;> omega)))) | ((with_reducible refine W4.o ?_; constructor); · (first | (with_reducible first | assumption | exact decide_eq_true rfl | exact sEq_self _) | ((with_reducible refine eqOK_i ?_); kernel_rfl) | (first | exact s1 | exact s2))) | ((with_reducible refine iteB_f ?_ ?_); · (first | (with_reducible first | assumption | exact decide_eq_true rfl | exact sEq_self _) | ((with_reducible refine eqOK_i ?_); kernel_rfl) | (first | exact s1 | exact s2))) | (refine ⟨⟨i + 1, hlt⟩, ?_, rfl, ?_⟩) | (with_reducible refine CD.wk_au ?_) | (with_reducible refine W5.o ?_; constructor) | ((with_reducible refine W6.o ?_; constructor) <;> intro hB))
      all_goals ((conv => whnf); (try dsimp only); (try simp only [Nat.succ_eq_add_one, Nat.le_eq, castL_self]); (try omega))
      all_goals (try (first | omega | (simp only [lens] <;> omega)))
      all_goals trace_state
    · have ei : Int.toNat ((i : Int) - (A.length : Int)) = i - n := by omega
      have f1 : atS B (i - n) = atS K i := by subst hB; rw [atS_drop (by rw [l3]; omega)]; congr 1; omega
      have f2 : atS BX (i - n) = atS X i := by subst hBX; rw [atS_drop (by rw [l4]; omega)]; congr 1; omega
      have s1 : sEq (Sym.rowAt [.str] B (Int.toNat ((i : Int) - (A.length : Int)))) (Sym.rowAt [.str] K (Int.toNat (i : Int))) = true := by rw [ei]; exact decide_eq_true f1
      have s2 : sEq (Sym.rowAt [.str] BX (Int.toNat ((i : Int) - (A.length : Int)))) (Sym.rowAt [.str] X (Int.toNat (i : Int))) = true := by rw [ei]; exact decide_eq_true f2
      repeat' ((conv => whnf); first | (with_reducible first | (refine W1.o ?_; constructor) | rfl | exact castL_self _ _) | ((with_reducible refine V.same_t ?_); exact rfl) | ((with_reducible refine andB_room ?_ ?_ ?_); (· kernel_rfl); (· (first | omega | (simp only [lens] <;> omega)))) | ((with_reducible refine W2.o ?_; constructor); · (first | (with_reducible assumption) | (first | omega | (simp only [lens] <;> omega)))) | ((with_reducible refine W3.o ?_; constructor); · (first | (with_reducible assumption) | (first | omega | (simp only [lens] <;> omega)))) | ((with_reducible refine W4.o ?_; constructor); · (first | (with_reducible first | assumption | exact decide_eq_true rfl | exact sEq_self _) | ((with_reducible refine eqOK_i ?_); kernel_rfl) | (first | exact s1 | exact s2))) | ((with_reducible refine iteB_f ?_ ?_); · (first | (with_reducible first | assumption | exact decide_eq_true rfl | exact sEq_self _) | ((with_reducible refine eqOK_i ?_); kernel_rfl) | (first | exact s1 | exact s2))) | (refine ⟨⟨i + 1, hlt⟩, ?_, rfl, ?_⟩) | (with_reducible refine CD.wk_au ?_) | (with_reducible refine W5.o ?_; constructor) | ((with_reducible refine W6.o ?_; constructor) <;> intro hB))
      all_goals ((conv => whnf); (try dsimp only); (try simp only [Nat.succ_eq_add_one, Nat.le_eq, castL_self]); (try omega))
      all_goals (try (first | omega | (simp only [lens] <;> omega)))
      all_goals trace_state
  · have he : i = K.length := Nat.le_antisymm hi hge
    subst he
    repeat' ((conv => whnf); first | (with_reducible first | (refine W1.o ?_; constructor) | rfl | exact castL_self _ _) | ((with_reducible refine V.same_t ?_); exact rfl) | ((with_reducible refine andB_room ?_ ?_ ?_); (· kernel_rfl); (· (first | omega | (simp only [lens] <;> omega)))) | ((with_reducible refine W2.o ?_; constructor); · (first | (with_reducible assumption) | (first | omega | (simp only [lens] <;> omega)))) | ((with_reducible refine W3.o ?_; constructor); · (first | (with_reducible assumption) | (first | omega | (simp only [lens] <;> omega)))) | ((with_reducible refine W4.o ?_; constructor); · (first | (with_reducible first | assumption | exact decide_eq_true rfl | exact sEq_self _) | ((with_reducible refine eqOK_i ?_); kernel_rfl))) | ((with_reducible refine iteB_f ?_ ?_); · (first | (with_reducible first | assumption | exact decide_eq_true rfl | exact sEq_self _) | ((with_reducible refine eqOK_i ?_); kernel_rfl))) | (with_reducible refine CD.wk_au ?_) | (with_reducible refine W5.o ?_; constructor) | ((with_reducible refine W6.o ?_; constructor) <;> intro hB))
    all_goals ((conv => whnf); (try dsimp only); (try simp only [Nat.succ_eq_add_one, Nat.le_eq, castL_self]); (try omega))
    all_goals (try (first | omega | (simp only [lens] <;> omega)))
    all_goals trace_state
end
section
variable (L : List (Int × Int)) (a b c d : Int)
theorem pageHalves_at (hL : L.length ≤ 9223372036854775807) (hz : ∀ j, j < L.length → (0 ≤ (Sym.rowAt p8 L j).1 ∧ (Sym.rowAt p8 L j).1 < 256) ∧ 0 ≤ (Sym.rowAt p8 L j).2 ∧ (Sym.rowAt p8 L j).2 < 256) (ha : 0 ≤ a ∧ a < 256) (hb : 0 ≤ b ∧ b < 256) (hc : 0 ≤ c ∧ c < 256) (hd : 0 ≤ d ∧ d < 256) :
    PureAt Try.prog 8 [.lst p8 L false, .agg [.int .u8 a, .int .u8 b], .agg [.int .u8 c, .int .u8 d]] (.bool true) := by
  obtain ⟨z1, z2⟩ := hv_0 L
  have hok := hv_ok L (min L.length 60)
  obtain ⟨g1, g2, g3, g4, g5, g6⟩ := hok
  obtain ⟨b1, b2⟩ : mayP true (insK (hvA L (min L.length 60)) (hvB L (min L.length 60)) (keyS (Sym.rowAt [.int .u8] [a, b] (Int.toNat 0)) ++ strOf (List.take (Int.toNat ((Sym.rowAt [.int .u8] [c, d] (Int.toNat 0)) % 22)) (List.drop 0 (List.replicate (Int.toNat ((Sym.rowAt [.int .u8] [c, d] (Int.toNat 0)) % 22)) 0)))) (strOf (List.take (Int.toNat ((Sym.rowAt [.int .u8] [c, d] (Int.toNat 1)) % 97)) (List.drop 0 (List.replicate (Int.toNat ((Sym.rowAt [.int .u8] [c, d] (Int.toNat 1)) % 97)) 0))))) (insX (hvA L (min L.length 60)) (hvB L (min L.length 60)) (keyS (Sym.rowAt [.int .u8] [a, b] (Int.toNat 0)) ++ strOf (List.take (Int.toNat ((Sym.rowAt [.int .u8] [c, d] (Int.toNat 0)) % 22)) (List.drop 0 (List.replicate (Int.toNat ((Sym.rowAt [.int .u8] [c, d] (Int.toNat 0)) % 22)) 0)))) (strOf (List.take (Int.toNat ((Sym.rowAt [.int .u8] [c, d] (Int.toNat 1)) % 97)) (List.drop 0 (List.replicate (Int.toNat ((Sym.rowAt [.int .u8] [c, d] (Int.toNat 1)) % 97)) 0))))) [] ∧ totL (insK (hvA L (min L.length 60)) (hvB L (min L.length 60)) (keyS (Sym.rowAt [.int .u8] [a, b] (Int.toNat 0)) ++ strOf (List.take (Int.toNat ((Sym.rowAt [.int .u8] [c, d] (Int.toNat 0)) % 22)) (List.drop 0 (List.replicate (Int.toNat ((Sym.rowAt [.int .u8] [c, d] (Int.toNat 0)) % 22)) 0)))) (strOf (List.take (Int.toNat ((Sym.rowAt [.int .u8] [c, d] (Int.toNat 1)) % 97)) (List.drop 0 (List.replicate (Int.toNat ((Sym.rowAt [.int .u8] [c, d] (Int.toNat 1)) % 97)) 0))))) (insX (hvA L (min L.length 60)) (hvB L (min L.length 60)) (keyS (Sym.rowAt [.int .u8] [a, b] (Int.toNat 0)) ++ strOf (List.take (Int.toNat ((Sym.rowAt [.int .u8] [c, d] (Int.toNat 0)) % 22)) (List.drop 0 (List.replicate (Int.toNat ((Sym.rowAt [.int .u8] [c, d] (Int.toNat 0)) % 22)) 0)))) (strOf (List.take (Int.toNat ((Sym.rowAt [.int .u8] [c, d] (Int.toNat 1)) % 97)) (List.drop 0 (List.replicate (Int.toNat ((Sym.rowAt [.int .u8] [c, d] (Int.toNat 1)) % 97)) 0))))) ≤ 372 := big_ok ⟨g1, g2, g3, g4, g5, g6⟩ (Sym.rowAt [.int .u8] [a, b] (Int.toNat 0)) (Sym.rowAt [.int .u8] [c, d] (Int.toNat 0)) (Sym.rowAt [.int .u8] [c, d] (Int.toNat 1)) hc.1 hd.1
  have ra : @LE.le Int _ 0 (Sym.rowAt [.int .u8] [a, b] (Int.toNat 0)) ∧ @LT.lt Int _ (Sym.rowAt [.int .u8] [a, b] (Int.toNat 0)) 256 := ha
  have rc : @LE.le Int _ 0 (Sym.rowAt [.int .u8] [c, d] (Int.toNat 0)) ∧ @LT.lt Int _ (Sym.rowAt [.int .u8] [c, d] (Int.toNat 0)) 256 := hc
  have rd : @LE.le Int _ 0 (Sym.rowAt [.int .u8] [c, d] (Int.toNat 1)) ∧ @LT.lt Int _ (Sym.rowAt [.int .u8] [c, d] (Int.toNat 1)) 256 := hd
  have b3 : ((insX (hvA L (min L.length 60)) (hvB L (min L.length 60)) (keyS (Sym.rowAt [.int .u8] [a, b] (Int.toNat 0)) ++ strOf (List.take (Int.toNat ((Sym.rowAt [.int .u8] [c, d] (Int.toNat 0)) % 22)) (List.drop 0 (List.replicate (Int.toNat ((Sym.rowAt [.int .u8] [c, d] (Int.toNat 0)) % 22)) 0)))) (strOf (List.take (Int.toNat ((Sym.rowAt [.int .u8] [c, d] (Int.toNat 1)) % 97)) (List.drop 0 (List.replicate (Int.toNat ((Sym.rowAt [.int .u8] [c, d] (Int.toNat 1)) % 97)) 0)))))).length = ((insK (hvA L (min L.length 60)) (hvB L (min L.length 60)) (keyS (Sym.rowAt [.int .u8] [a, b] (Int.toNat 0)) ++ strOf (List.take (Int.toNat ((Sym.rowAt [.int .u8] [c, d] (Int.toNat 0)) % 22)) (List.drop 0 (List.replicate (Int.toNat ((Sym.rowAt [.int .u8] [c, d] (Int.toNat 0)) % 22)) 0)))) (strOf (List.take (Int.toNat ((Sym.rowAt [.int .u8] [c, d] (Int.toNat 1)) % 97)) (List.drop 0 (List.replicate (Int.toNat ((Sym.rowAt [.int .u8] [c, d] (Int.toNat 1)) % 97)) 0)))))).length := (may_x b1).1
  have b4 : ((insK (hvA L (min L.length 60)) (hvB L (min L.length 60)) (keyS (Sym.rowAt [.int .u8] [a, b] (Int.toNat 0)) ++ strOf (List.take (Int.toNat ((Sym.rowAt [.int .u8] [c, d] (Int.toNat 0)) % 22)) (List.drop 0 (List.replicate (Int.toNat ((Sym.rowAt [.int .u8] [c, d] (Int.toNat 0)) % 22)) 0)))) (strOf (List.take (Int.toNat ((Sym.rowAt [.int .u8] [c, d] (Int.toNat 1)) % 97)) (List.drop 0 (List.replicate (Int.toNat ((Sym.rowAt [.int .u8] [c, d] (Int.toNat 1)) % 97)) 0)))))).length ≤ 255 := b1.2.2.1
  have u1 : (keyS (Sym.rowAt [.int .u8] [a, b] (Int.toNat 0))).size = 3 := by rw [keyS_eq, strOf_size]; rfl
  cases hq : fitB true (insK (hvA L (min L.length 60)) (hvB L (min L.length 60)) (keyS (Sym.rowAt [.int .u8] [a, b] (Int.toNat 0)) ++ strOf (List.take (Int.toNat ((Sym.rowAt [.int .u8] [c, d] (Int.toNat 0)) % 22)) (List.drop 0 (List.replicate (Int.toNat ((Sym.rowAt [.int .u8] [c, d] (Int.toNat 0)) % 22)) 0)))) (strOf (List.take (Int.toNat ((Sym.rowAt [.int .u8] [c, d] (Int.toNat 1)) % 97)) (List.drop 0 (List.replicate (Int.toNat ((Sym.rowAt [.int .u8] [c, d] (Int.toNat 1)) % 97)) 0))))) (insX (hvA L (min L.length 60)) (hvB L (min L.length 60)) (keyS (Sym.rowAt [.int .u8] [a, b] (Int.toNat 0)) ++ strOf (List.take (Int.toNat ((Sym.rowAt [.int .u8] [c, d] (Int.toNat 0)) % 22)) (List.drop 0 (List.replicate (Int.toNat ((Sym.rowAt [.int .u8] [c, d] (Int.toNat 0)) % 22)) 0)))) (strOf (List.take (Int.toNat ((Sym.rowAt [.int .u8] [c, d] (Int.toNat 1)) % 97)) (List.drop 0 (List.replicate (Int.toNat ((Sym.rowAt [.int .u8] [c, d] (Int.toNat 1)) % 97)) 0))))) [] with
  | true =>
    refine pure_of_loops tabPgHv_ok (fuel := 3) (d := 5) [⟨3, [(0, 0), (1, 1), (2, 2)], hvC L a b c d 0, .leaf (.exit 0) (hvC L a b c d (min L.length 60))⟩] ?_ ?_
    · intro N y hy
      rw [List.mem_singleton.1 hy]
      exact hv_loop L a b c d hL hz N
    · repeat' ((conv => whnf); first | (with_reducible first | (refine W1.o ?_; constructor) | rfl | exact castL_self _ _) | ((with_reducible refine V.same_t ?_); exact rfl) | ((with_reducible refine andB_room ?_ ?_ ?_); (· kernel_rfl); (· (first | omega | (simp only [lens] <;> omega)))) | ((with_reducible refine W2.o ?_; constructor); · (first | (with_reducible assumption) | (first | omega | (simp only [lens] <;> omega)))) | ((with_reducible refine W3.o ?_; constructor); · (first | (with_reducible assumption) | (first | omega | (simp only [lens] <;> omega)))) | ((with_reducible refine W4.o ?_; constructor); · (first | (with_reducible first | assumption | exact decide_eq_true rfl | exact sEq_self _) | ((with_reducible refine eqOK_i ?_); kernel_rfl) | (first | exact hq))) | ((with_reducible refine iteB_f ?_ ?_); · (first | (with_reducible first | assumption | exact decide_eq_true rfl | exact sEq_self _) | ((with_reducible refine eqOK_i ?_); kernel_rfl) | (first | exact hq))) | (with_reducible refine CD.wk_au ?_) | (with_reducible refine W5.o ?_; constructor) | ((with_reducible refine W6.o ?_; constructor) <;> intro hB))
      all_goals ((conv => whnf); (try dsimp only); (try simp only [Nat.succ_eq_add_one, Nat.le_eq, castL_self]); (try omega))
      all_goals (try (first | omega | (simp only [lens] <;> omega)))
      all_goals first
        | omega
        | exact z1.symm
        | exact z2.symm
        | (show 1 * _ ≤ _; omega)
        | rfl
        | trace_state
  | false =>
    have hnf : ¬ (layN true (insK (hvA L (min L.length 60)) (hvB L (min L.length 60)) (keyS (Sym.rowAt [.int .u8] [a, b] (Int.toNat 0)) ++ strOf (List.take (Int.toNat ((Sym.rowAt [.int .u8] [c, d] (Int.toNat 0)) % 22)) (List.drop 0 (List.replicate (Int.toNat ((Sym.rowAt [.int .u8] [c, d] (Int.toNat 0)) % 22)) 0)))) (strOf (List.take (Int.toNat ((Sym.rowAt [.int .u8] [c, d] (Int.toNat 1)) % 97)) (List.drop 0 (List.replicate (Int.toNat ((Sym.rowAt [.int .u8] [c, d] (Int.toNat 1)) % 97)) 0))))) (insX (hvA L (min L.length 60)) (hvB L (min L.length 60)) (keyS (Sym.rowAt [.int .u8] [a, b] (Int.toNat 0)) ++ strOf (List.take (Int.toNat ((Sym.rowAt [.int .u8] [c, d] (Int.toNat 0)) % 22)) (List.drop 0 (List.replicate (Int.toNat ((Sym.rowAt [.int .u8] [c, d] (Int.toNat 0)) % 22)) 0)))) (strOf (List.take (Int.toNat ((Sym.rowAt [.int .u8] [c, d] (Int.toNat 1)) % 97)) (List.drop 0 (List.replicate (Int.toNat ((Sym.rowAt [.int .u8] [c, d] (Int.toNat 1)) % 97)) 0))))) [] ((insK (hvA L (min L.length 60)) (hvB L (min L.length 60)) (keyS (Sym.rowAt [.int .u8] [a, b] (Int.toNat 0)) ++ strOf (List.take (Int.toNat ((Sym.rowAt [.int .u8] [c, d] (Int.toNat 0)) % 22)) (List.drop 0 (List.replicate (Int.toNat ((Sym.rowAt [.int .u8] [c, d] (Int.toNat 0)) % 22)) 0)))) (strOf (List.take (Int.toNat ((Sym.rowAt [.int .u8] [c, d] (Int.toNat 1)) % 97)) (List.drop 0 (List.replicate (Int.toNat ((Sym.rowAt [.int .u8] [c, d] (Int.toNat 1)) % 97)) 0)))))).length).length ≤ 252 := fun h => by rw [(fitB_iff _ _ _ _).2 ⟨b1, h⟩] at hq; cases hq
    rcases Nat.lt_or_ge ((insK (hvA L (min L.length 60)) (hvB L (min L.length 60)) (keyS (Sym.rowAt [.int .u8] [a, b] (Int.toNat 0)) ++ strOf (List.take (Int.toNat ((Sym.rowAt [.int .u8] [c, d] (Int.toNat 0)) % 22)) (List.drop 0 (List.replicate (Int.toNat ((Sym.rowAt [.int .u8] [c, d] (Int.toNat 0)) % 22)) 0)))) (strOf (List.take (Int.toNat ((Sym.rowAt [.int .u8] [c, d] (Int.toNat 1)) % 97)) (List.drop 0 (List.replicate (Int.toNat ((Sym.rowAt [.int .u8] [c, d] (Int.toNat 1)) % 97)) 0)))))).length 2 with h2 | h2
    · refine pure_of_loops tabPgHv_ok (fuel := 3) (d := 5) [⟨3, [(0, 0), (1, 1), (2, 2)], hvC L a b c d 0, .leaf (.exit 0) (hvC L a b c d (min L.length 60))⟩] ?_ ?_
      · intro N y hy
        rw [List.mem_singleton.1 hy]
        exact hv_loop L a b c d hL hz N
      · repeat' ((conv => whnf); first | (with_reducible first | (refine W1.o ?_; constructor) | rfl | exact castL_self _ _) | ((with_reducible refine V.same_t ?_); exact rfl) | ((with_reducible refine andB_room ?_ ?_ ?_); (· kernel_rfl); (· (first | omega | (simp only [lens] <;> omega)))) | ((with_reducible refine W2.o ?_; constructor); · (first | (with_reducible assumption) | (first | omega | (simp only [lens] <;> omega)))) | ((with_reducible refine W3.o ?_; constructor); · (first | (with_reducible assumption) | (first | omega | (simp only [lens] <;> omega)))) | ((with_reducible refine W4.o ?_; constructor); · (first | (with_reducible first | assumption | exact decide_eq_true rfl | exact sEq_self _) | ((with_reducible refine eqOK_i ?_); kernel_rfl) | (first | exact hq))) | ((with_reducible refine iteB_f ?_ ?_); · (first | (with_reducible first | assumption | exact decide_eq_true rfl | exact sEq_self _) | ((with_reducible refine eqOK_i ?_); kernel_rfl) | (first | exact hq))) | (with_reducible refine CD.wk_au ?_) | (with_reducible refine W5.o ?_; constructor) | ((with_reducible refine W6.o ?_; constructor) <;> intro hB))
        all_goals ((conv => whnf); (try dsimp only); (try simp only [Nat.succ_eq_add_one, Nat.le_eq, castL_self]); (try omega))
        all_goals (try (first | omega | (simp only [lens] <;> omega)))
        all_goals first
          | omega
          | exact z1.symm
          | exact z2.symm
          | (show 1 * _ ≤ _; omega)
          | rfl
          | trace_state
    · obtain ⟨n, n1, n2, n3, f1, f2⟩ := halves_fit b1 h2 hnf b2
      obtain ⟨e1, e2, e3, e4, e5, e6, e7, e8, e9⟩ := spl_leaf (⟨b1, h2⟩ : okS true (insK (hvA L (min L.length 60)) (hvB L (min L.length 60)) (keyS (Sym.rowAt [.int .u8] [a, b] (Int.toNat 0)) ++ strOf (List.take (Int.toNat ((Sym.rowAt [.int .u8] [c, d] (Int.toNat 0)) % 22)) (List.drop 0 (List.replicate (Int.toNat ((Sym.rowAt [.int .u8] [c, d] (Int.toNat 0)) % 22)) 0)))) (strOf (List.take (Int.toNat ((Sym.rowAt [.int .u8] [c, d] (Int.toNat 1)) % 97)) (List.drop 0 (List.replicate (Int.toNat ((Sym.rowAt [.int .u8] [c, d] (Int.toNat 1)) % 97)) 0))))) (insX (hvA L (min L.length 60)) (hvB L (min L.length 60)) (keyS (Sym.rowAt [.int .u8] [a, b] (Int.toNat 0)) ++ strOf (List.take (Int.toNat ((Sym.rowAt [.int .u8] [c, d] (Int.toNat 0)) % 22)) (List.drop 0 (List.replicate (Int.toNat ((Sym.rowAt [.int .u8] [c, d] (Int.toNat 0)) % 22)) 0)))) (strOf (List.take (Int.toNat ((Sym.rowAt [.int .u8] [c, d] (Int.toNat 1)) % 97)) (List.drop 0 (List.replicate (Int.toNat ((Sym.rowAt [.int .u8] [c, d] (Int.toNat 1)) % 97)) 0))))) [])
      have tn : Int.toNat (n : Int) = n := by omega
      rw [n3, tn] at e2 e3 e5 e6 e8
      rw [tkS_eq] at e2 e3
      rw [dpS_eq] at e5 e6
      have F1 : fitB (s1L true (insK (hvA L (min L.length 60)) (hvB L (min L.length 60)) (keyS (Sym.rowAt [.int .u8] [a, b] (Int.toNat 0)) ++ strOf (List.take (Int.toNat ((Sym.rowAt [.int .u8] [c, d] (Int.toNat 0)) % 22)) (List.drop 0 (List.replicate (Int.toNat ((Sym.rowAt [.int .u8] [c, d] (Int.toNat 0)) % 22)) 0)))) (strOf (List.take (Int.toNat ((Sym.rowAt [.int .u8] [c, d] (Int.toNat 1)) % 97)) (List.drop 0 (List.replicate (Int.toNat ((Sym.rowAt [.int .u8] [c, d] (Int.toNat 1)) % 97)) 0))))) (insX (hvA L (min L.length 60)) (hvB L (min L.length 60)) (keyS (Sym.rowAt [.int .u8] [a, b] (Int.toNat 0)) ++ strOf (List.take (Int.toNat ((Sym.rowAt [.int .u8] [c, d] (Int.toNat 0)) % 22)) (List.drop 0 (List.replicate (Int.toNat ((Sym.rowAt [.int .u8] [c, d] (Int.toNat 0)) % 22)) 0)))) (strOf (List.take (Int.toNat ((Sym.rowAt [.int .u8] [c, d] (Int.toNat 1)) % 97)) (List.drop 0 (List.replicate (Int.toNat ((Sym.rowAt [.int .u8] [c, d] (Int.toNat 1)) % 97)) 0))))) []) (s1K true (insK (hvA L (min L.length 60)) (hvB L (min L.length 60)) (keyS (Sym.rowAt [.int .u8] [a, b] (Int.toNat 0)) ++ strOf (List.take (Int.toNat ((Sym.rowAt [.int .u8] [c, d] (Int.toNat 0)) % 22)) (List.drop 0 (List.replicate (Int.toNat ((Sym.rowAt [.int .u8] [c, d] (Int.toNat 0)) % 22)) 0)))) (strOf (List.take (Int.toNat ((Sym.rowAt [.int .u8] [c, d] (Int.toNat 1)) % 97)) (List.drop 0 (List.replicate (Int.toNat ((Sym.rowAt [.int .u8] [c, d] (Int.toNat 1)) % 97)) 0))))) (insX (hvA L (min L.length 60)) (hvB L (min L.length 60)) (keyS (Sym.rowAt [.int .u8] [a, b] (Int.toNat 0)) ++ strOf (List.take (Int.toNat ((Sym.rowAt [.int .u8] [c, d] (Int.toNat 0)) % 22)) (List.drop 0 (List.replicate (Int.toNat ((Sym.rowAt [.int .u8] [c, d] (Int.toNat 0)) % 22)) 0)))) (strOf (List.take (Int.toNat ((Sym.rowAt [.int .u8] [c, d] (Int.toNat 1)) % 97)) (List.drop 0 (List.replicate (Int.toNat ((Sym.rowAt [.int .u8] [c, d] (Int.toNat 1)) % 97)) 0))))) []) (s1X true (insK (hvA L (min L.length 60)) (hvB L (min L.length 60)) (keyS (Sym.rowAt [.int .u8] [a, b] (Int.toNat 0)) ++ strOf (List.take (Int.toNat ((Sym.rowAt [.int .u8] [c, d] (Int.toNat 0)) % 22)) (List.drop 0 (List.replicate (Int.toNat ((Sym.rowAt [.int .u8] [c, d] (Int.toNat 0)) % 22)) 0)))) (strOf (List.take (Int.toNat ((Sym.rowAt [.int .u8] [c, d] (Int.toNat 1)) % 97)) (List.drop 0 (List.replicate (Int.toNat ((Sym.rowAt [.int .u8] [c, d] (Int.toNat 1)) % 97)) 0))))) (insX (hvA L (min L.length 60)) (hvB L (min L.length 60)) (keyS (Sym.rowAt [.int .u8] [a, b] (Int.toNat 0)) ++ strOf (List.take (Int.toNat ((Sym.rowAt [.int .u8] [c, d] (Int.toNat 0)) % 22)) (List.drop 0 (List.replicate (Int.toNat ((Sym.rowAt [.int .u8] [c, d] (Int.toNat 0)) % 22)) 0)))) (strOf (List.take (Int.toNat ((Sym.rowAt [.int .u8] [c, d] (Int.toNat 1)) % 97)) (List.drop 0 (List.replicate (Int.toNat ((Sym.rowAt [.int .u8] [c, d] (Int.toNat 1)) % 97)) 0))))) []) (s1C true (insK (hvA L (min L.length 60)) (hvB L (min L.length 60)) (keyS (Sym.rowAt [.int .u8] [a, b] (Int.toNat 0)) ++ strOf (List.take (Int.toNat ((Sym.rowAt [.int .u8] [c, d] (Int.toNat 0)) % 22)) (List.drop 0 (List.replicate (Int.toNat ((Sym.rowAt [.int .u8] [c, d] (Int.toNat 0)) % 22)) 0)))) (strOf (List.take (Int.toNat ((Sym.rowAt [.int .u8] [c, d] (Int.toNat 1)) % 97)) (List.drop 0 (List.replicate (Int.toNat ((Sym.rowAt [.int .u8] [c, d] (Int.toNat 1)) % 97)) 0))))) (insX (hvA L (min L.length 60)) (hvB L (min L.length 60)) (keyS (Sym.rowAt [.int .u8] [a, b] (Int.toNat 0)) ++ strOf (List.take (Int.toNat ((Sym.rowAt [.int .u8] [c, d] (Int.toNat 0)) % 22)) (List.drop 0 (List.replicate (Int.toNat ((Sym.rowAt [.int .u8] [c, d] (Int.toNat 0)) % 22)) 0)))) (strOf (List.take (Int.toNat ((Sym.rowAt [.int .u8] [c, d] (Int.toNat 1)) % 97)) (List.drop 0 (List.replicate (Int.toNat ((Sym.rowAt [.int .u8] [c, d] (Int.toNat 1)) % 97)) 0))))) []) = true := by rw [e1, e2, e3, e4]; exact (fitB_iff _ _ _ _).2 f1
      have F2 : fitB (s1L true (insK (hvA L (min L.length 60)) (hvB L (min L.length 60)) (keyS (Sym.rowAt [.int .u8] [a, b] (Int.toNat 0)) ++ strOf (List.take (Int.toNat ((Sym.rowAt [.int .u8] [c, d] (Int.toNat 0)) % 22)) (List.drop 0 (List.replicate (Int.toNat ((Sym.rowAt [.int .u8] [c, d] (Int.toNat 0)) % 22)) 0)))) (strOf (List.take (Int.toNat ((Sym.rowAt [.int .u8] [c, d] (Int.toNat 1)) % 97)) (List.drop 0 (List.replicate (Int.toNat ((Sym.rowAt [.int .u8] [c, d] (Int.toNat 1)) % 97)) 0))))) (insX (hvA L (min L.length 60)) (hvB L (min L.length 60)) (keyS (Sym.rowAt [.int .u8] [a, b] (Int.toNat 0)) ++ strOf (List.take (Int.toNat ((Sym.rowAt [.int .u8] [c, d] (Int.toNat 0)) % 22)) (List.drop 0 (List.replicate (Int.toNat ((Sym.rowAt [.int .u8] [c, d] (Int.toNat 0)) % 22)) 0)))) (strOf (List.take (Int.toNat ((Sym.rowAt [.int .u8] [c, d] (Int.toNat 1)) % 97)) (List.drop 0 (List.replicate (Int.toNat ((Sym.rowAt [.int .u8] [c, d] (Int.toNat 1)) % 97)) 0))))) []) (s2K true (insK (hvA L (min L.length 60)) (hvB L (min L.length 60)) (keyS (Sym.rowAt [.int .u8] [a, b] (Int.toNat 0)) ++ strOf (List.take (Int.toNat ((Sym.rowAt [.int .u8] [c, d] (Int.toNat 0)) % 22)) (List.drop 0 (List.replicate (Int.toNat ((Sym.rowAt [.int .u8] [c, d] (Int.toNat 0)) % 22)) 0)))) (strOf (List.take (Int.toNat ((Sym.rowAt [.int .u8] [c, d] (Int.toNat 1)) % 97)) (List.drop 0 (List.replicate (Int.toNat ((Sym.rowAt [.int .u8] [c, d] (Int.toNat 1)) % 97)) 0))))) (insX (hvA L (min L.length 60)) (hvB L (min L.length 60)) (keyS (Sym.rowAt [.int .u8] [a, b] (Int.toNat 0)) ++ strOf (List.take (Int.toNat ((Sym.rowAt [.int .u8] [c, d] (Int.toNat 0)) % 22)) (List.drop 0 (List.replicate (Int.toNat ((Sym.rowAt [.int .u8] [c, d] (Int.toNat 0)) % 22)) 0)))) (strOf (List.take (Int.toNat ((Sym.rowAt [.int .u8] [c, d] (Int.toNat 1)) % 97)) (List.drop 0 (List.replicate (Int.toNat ((Sym.rowAt [.int .u8] [c, d] (Int.toNat 1)) % 97)) 0))))) []) (s2X true (insK (hvA L (min L.length 60)) (hvB L (min L.length 60)) (keyS (Sym.rowAt [.int .u8] [a, b] (Int.toNat 0)) ++ strOf (List.take (Int.toNat ((Sym.rowAt [.int .u8] [c, d] (Int.toNat 0)) % 22)) (List.drop 0 (List.replicate (Int.toNat ((Sym.rowAt [.int .u8] [c, d] (Int.toNat 0)) % 22)) 0)))) (strOf (List.take (Int.toNat ((Sym.rowAt [.int .u8] [c, d] (Int.toNat 1)) % 97)) (List.drop 0 (List.replicate (Int.toNat ((Sym.rowAt [.int .u8] [c, d] (Int.toNat 1)) % 97)) 0))))) (insX (hvA L (min L.length 60)) (hvB L (min L.length 60)) (keyS (Sym.rowAt [.int .u8] [a, b] (Int.toNat 0)) ++ strOf (List.take (Int.toNat ((Sym.rowAt [.int .u8] [c, d] (Int.toNat 0)) % 22)) (List.drop 0 (List.replicate (Int.toNat ((Sym.rowAt [.int .u8] [c, d] (Int.toNat 0)) % 22)) 0)))) (strOf (List.take (Int.toNat ((Sym.rowAt [.int .u8] [c, d] (Int.toNat 1)) % 97)) (List.drop 0 (List.replicate (Int.toNat ((Sym.rowAt [.int .u8] [c, d] (Int.toNat 1)) % 97)) 0))))) []) (s2C true (insK (hvA L (min L.length 60)) (hvB L (min L.length 60)) (keyS (Sym.rowAt [.int .u8] [a, b] (Int.toNat 0)) ++ strOf (List.take (Int.toNat ((Sym.rowAt [.int .u8] [c, d] (Int.toNat 0)) % 22)) (List.drop 0 (List.replicate (Int.toNat ((Sym.rowAt [.int .u8] [c, d] (Int.toNat 0)) % 22)) 0)))) (strOf (List.take (Int.toNat ((Sym.rowAt [.int .u8] [c, d] (Int.toNat 1)) % 97)) (List.drop 0 (List.replicate (Int.toNat ((Sym.rowAt [.int .u8] [c, d] (Int.toNat 1)) % 97)) 0))))) (insX (hvA L (min L.length 60)) (hvB L (min L.length 60)) (keyS (Sym.rowAt [.int .u8] [a, b] (Int.toNat 0)) ++ strOf (List.take (Int.toNat ((Sym.rowAt [.int .u8] [c, d] (Int.toNat 0)) % 22)) (List.drop 0 (List.replicate (Int.toNat ((Sym.rowAt [.int .u8] [c, d] (Int.toNat 0)) % 22)) 0)))) (strOf (List.take (Int.toNat ((Sym.rowAt [.int .u8] [c, d] (Int.toNat 1)) % 97)) (List.drop 0 (List.replicate (Int.toNat ((Sym.rowAt [.int .u8] [c, d] (Int.toNat 1)) % 97)) 0))))) []) = true := by rw [e1, e5, e6, e7]; exact (fitB_iff _ _ _ _).2 f2
      have l1 : (s1K true (insK (hvA L (min L.length 60)) (hvB L (min L.length 60)) (keyS (Sym.rowAt [.int .u8] [a, b] (Int.toNat 0)) ++ strOf (List.take (Int.toNat ((Sym.rowAt [.int .u8] [c, d] (Int.toNat 0)) % 22)) (List.drop 0 (List.replicate (Int.toNat ((Sym.rowAt [.int .u8] [c, d] (Int.toNat 0)) % 22)) 0)))) (strOf (List.take (Int.toNat ((Sym.rowAt [.int .u8] [c, d] (Int.toNat 1)) % 97)) (List.drop 0 (List.replicate (Int.toNat ((Sym.rowAt [.int .u8] [c, d] (Int.toNat 1)) % 97)) 0))))) (insX (hvA L (min L.length 60)) (hvB L (min L.length 60)) (keyS (Sym.rowAt [.int .u8] [a, b] (Int.toNat 0)) ++ strOf (List.take (Int.toNat ((Sym.rowAt [.int .u8] [c, d] (Int.toNat 0)) % 22)) (List.drop 0 (List.replicate (Int.toNat ((Sym.rowAt [.int .u8] [c, d] (Int.toNat 0)) % 22)) 0)))) (strOf (List.take (Int.toNat ((Sym.rowAt [.int .u8] [c, d] (Int.toNat 1)) % 97)) (List.drop 0 (List.replicate (Int.toNat ((Sym.rowAt [.int .u8] [c, d] (Int.toNat 1)) % 97)) 0))))) []).length = n := by rw [e2, List.length_take]; omega
      have l2 : (s1X true (insK (hvA L (min L.length 60)) (hvB L (min L.length 60)) (keyS (Sym.rowAt [.int .u8] [a, b] (Int.toNat 0)) ++ strOf (List.take (Int.toNat ((Sym.rowAt [.int .u8] [c, d] (Int.toNat 0)) % 22)) (List.drop 0 (List.replicate (Int.toNat ((Sym.rowAt [.int .u8] [c, d] (Int.toNat 0)) % 22)) 0)))) (strOf (List.take (Int.toNat ((Sym.rowAt [.int .u8] [c, d] (Int.toNat 1)) % 97)) (List.drop 0 (List.replicate (Int.toNat ((Sym.rowAt [.int .u8] [c, d] (Int.toNat 1)) % 97)) 0))))) (insX (hvA L (min L.length 60)) (hvB L (min L.length 60)) (keyS (Sym.rowAt [.int .u8] [a, b] (Int.toNat 0)) ++ strOf (List.take (Int.toNat ((Sym.rowAt [.int .u8] [c, d] (Int.toNat 0)) % 22)) (List.drop 0 (List.replicate (Int.toNat ((Sym.rowAt [.int .u8] [c, d] (Int.toNat 0)) % 22)) 0)))) (strOf (List.take (Int.toNat ((Sym.rowAt [.int .u8] [c, d] (Int.toNat 1)) % 97)) (List.drop 0 (List.replicate (Int.toNat ((Sym.rowAt [.int .u8] [c, d] (Int.toNat 1)) % 97)) 0))))) []).length = n := by rw [e3, List.length_take]; omega
      have l3 : (s1C true (insK (hvA L (min L.length 60)) (hvB L (min L.length 60)) (keyS (Sym.rowAt [.int .u8] [a, b] (Int.toNat 0)) ++ strOf (List.take (Int.toNat ((Sym.rowAt [.int .u8] [c, d] (Int.toNat 0)) % 22)) (List.drop 0 (List.replicate (Int.toNat ((Sym.rowAt [.int .u8] [c, d] (Int.toNat 0)) % 22)) 0)))) (strOf (List.take (Int.toNat ((Sym.rowAt [.int .u8] [c, d] (Int.toNat 1)) % 97)) (List.drop 0 (List.replicate (Int.toNat ((Sym.rowAt [.int .u8] [c, d] (Int.toNat 1)) % 97)) 0))))) (insX (hvA L (min L.length 60)) (hvB L (min L.length 60)) (keyS (Sym.rowAt [.int .u8] [a, b] (Int.toNat 0)) ++ strOf (List.take (Int.toNat ((Sym.rowAt [.int .u8] [c, d] (Int.toNat 0)) % 22)) (List.drop 0 (List.replicate (Int.toNat ((Sym.rowAt [.int .u8] [c, d] (Int.toNat 0)) % 22)) 0)))) (strOf (List.take (Int.toNat ((Sym.rowAt [.int .u8] [c, d] (Int.toNat 1)) % 97)) (List.drop 0 (List.replicate (Int.toNat ((Sym.rowAt [.int .u8] [c, d] (Int.toNat 1)) % 97)) 0))))) []).length = 0 := by rw [e4]; rfl
      have l4 : (s2K true (insK (hvA L (min L.length 60)) (hvB L (min L.length 60)) (keyS (Sym.rowAt [.int .u8] [a, b] (Int.toNat 0)) ++ strOf (List.take (Int.toNat ((Sym.rowAt [.int .u8] [c, d] (Int.toNat 0)) % 22)) (List.drop 0 (List.replicate (Int.toNat ((Sym.rowAt [.int .u8] [c, d] (Int.toNat 0)) % 22)) 0)))) (strOf (List.take (Int.toNat ((Sym.rowAt [.int .u8] [c, d] (Int.toNat 1)) % 97)) (List.drop 0 (List.replicate (Int.toNat ((Sym.rowAt [.int .u8] [c, d] (Int.toNat 1)) % 97)) 0))))) (insX (hvA L (min L.length 60)) (hvB L (min L.length 60)) (keyS (Sym.rowAt [.int .u8] [a, b] (Int.toNat 0)) ++ strOf (List.take (Int.toNat ((Sym.rowAt [.int .u8] [c, d] (Int.toNat 0)) % 22)) (List.drop 0 (List.replicate (Int.toNat ((Sym.rowAt [.int .u8] [c, d] (Int.toNat 0)) % 22)) 0)))) (strOf (List.take (Int.toNat ((Sym.rowAt [.int .u8] [c, d] (Int.toNat 1)) % 97)) (List.drop 0 (List.replicate (Int.toNat ((Sym.rowAt [.int .u8] [c, d] (Int.toNat 1)) % 97)) 0))))) []).length = ((insK (hvA L (min L.length 60)) (hvB L (min L.length 60)) (keyS (Sym.rowAt [.int .u8] [a, b] (Int.toNat 0)) ++ strOf (List.take (Int.toNat ((Sym.rowAt [.int .u8] [c, d] (Int.toNat 0)) % 22)) (List.drop 0 (List.replicate (Int.toNat ((Sym.rowAt [.int .u8] [c, d] (Int.toNat 0)) % 22)) 0)))) (strOf (List.take (Int.toNat ((Sym.rowAt [.int .u8] [c, d] (Int.toNat 1)) % 97)) (List.drop 0 (List.replicate (Int.toNat ((Sym.rowAt [.int .u8] [c, d] (Int.toNat 1)) % 97)) 0)))))).length - n := by rw [e5, List.length_drop]
      have l5 : (s2X true (insK (hvA L (min L.length 60)) (hvB L (min L.length 60)) (keyS (Sym.rowAt [.int .u8] [a, b] (Int.toNat 0)) ++ strOf (List.take (Int.toNat ((Sym.rowAt [.int .u8] [c, d] (Int.toNat 0)) % 22)) (List.drop 0 (List.replicate (Int.toNat ((Sym.rowAt [.int .u8] [c, d] (Int.toNat 0)) % 22)) 0)))) (strOf (List.take (Int.toNat ((Sym.rowAt [.int .u8] [c, d] (Int.toNat 1)) % 97)) (List.drop 0 (List.replicate (Int.toNat ((Sym.rowAt [.int .u8] [c, d] (Int.toNat 1)) % 97)) 0))))) (insX (hvA L (min L.length 60)) (hvB L (min L.length 60)) (keyS (Sym.rowAt [.int .u8] [a, b] (Int.toNat 0)) ++ strOf (List.take (Int.toNat ((Sym.rowAt [.int .u8] [c, d] (Int.toNat 0)) % 22)) (List.drop 0 (List.replicate (Int.toNat ((Sym.rowAt [.int .u8] [c, d] (Int.toNat 0)) % 22)) 0)))) (strOf (List.take (Int.toNat ((Sym.rowAt [.int .u8] [c, d] (Int.toNat 1)) % 97)) (List.drop 0 (List.replicate (Int.toNat ((Sym.rowAt [.int .u8] [c, d] (Int.toNat 1)) % 97)) 0))))) []).length = ((insK (hvA L (min L.length 60)) (hvB L (min L.length 60)) (keyS (Sym.rowAt [.int .u8] [a, b] (Int.toNat 0)) ++ strOf (List.take (Int.toNat ((Sym.rowAt [.int .u8] [c, d] (Int.toNat 0)) % 22)) (List.drop 0 (List.replicate (Int.toNat ((Sym.rowAt [.int .u8] [c, d] (Int.toNat 0)) % 22)) 0)))) (strOf (List.take (Int.toNat ((Sym.rowAt [.int .u8] [c, d] (Int.toNat 1)) % 97)) (List.drop 0 (List.replicate (Int.toNat ((Sym.rowAt [.int .u8] [c, d] (Int.toNat 1)) % 97)) 0)))))).length - n := by rw [e6, List.length_drop]; omega
      have l6 : (s2C true (insK (hvA L (min L.length 60)) (hvB L (min L.length 60)) (keyS (Sym.rowAt [.int .u8] [a, b] (Int.toNat 0)) ++ strOf (List.take (Int.toNat ((Sym.rowAt [.int .u8] [c, d] (Int.toNat 0)) % 22)) (List.drop 0 (List.replicate (Int.toNat ((Sym.rowAt [.int .u8] [c, d] (Int.toNat 0)) % 22)) 0)))) (strOf (List.take (Int.toNat ((Sym.rowAt [.int .u8] [c, d] (Int.toNat 1)) % 97)) (List.drop 0 (List.replicate (Int.toNat ((Sym.rowAt [.int .u8] [c, d] (Int.toNat 1)) % 97)) 0))))) (insX (hvA L (min L.length 60)) (hvB L (min L.length 60)) (keyS (Sym.rowAt [.int .u8] [a, b] (Int.toNat 0)) ++ strOf (List.take (Int.toNat ((Sym.rowAt [.int .u8] [c, d] (Int.toNat 0)) % 22)) (List.drop 0 (List.replicate (Int.toNat ((Sym.rowAt [.int .u8] [c, d] (Int.toNat 0)) % 22)) 0)))) (strOf (List.take (Int.toNat ((Sym.rowAt [.int .u8] [c, d] (Int.toNat 1)) % 97)) (List.drop 0 (List.replicate (Int.toNat ((Sym.rowAt [.int .u8] [c, d] (Int.toNat 1)) % 97)) 0))))) []).length = 0 := by rw [e7]; rfl
      have S1 : sEq (sKey true (insK (hvA L (min L.length 60)) (hvB L (min L.length 60)) (keyS (Sym.rowAt [.int .u8] [a, b] (Int.toNat 0)) ++ strOf (List.take (Int.toNat ((Sym.rowAt [.int .u8] [c, d] (Int.toNat 0)) % 22)) (List.drop 0 (List.replicate (Int.toNat ((Sym.rowAt [.int .u8] [c, d] (Int.toNat 0)) % 22)) 0)))) (strOf (List.take (Int.toNat ((Sym.rowAt [.int .u8] [c, d] (Int.toNat 1)) % 97)) (List.drop 0 (List.replicate (Int.toNat ((Sym.rowAt [.int .u8] [c, d] (Int.toNat 1)) % 97)) 0))))) (insX (hvA L (min L.length 60)) (hvB L (min L.length 60)) (keyS (Sym.rowAt [.int .u8] [a, b] (Int.toNat 0)) ++ strOf (List.take (Int.toNat ((Sym.rowAt [.int .u8] [c, d] (Int.toNat 0)) % 22)) (List.drop 0 (List.replicate (Int.toNat ((Sym.rowAt [.int .u8] [c, d] (Int.toNat 0)) % 22)) 0)))) (strOf (List.take (Int.toNat ((Sym.rowAt [.int .u8] [c, d] (Int.toNat 1)) % 97)) (List.drop 0 (List.replicate (Int.toNat ((Sym.rowAt [.int .u8] [c, d] (Int.toNat 1)) % 97)) 0))))) []) (Sym.rowAt [.str] (s2K true (insK (hvA L (min L.length 60)) (hvB L (min L.length 60)) (keyS (Sym.rowAt [.int .u8] [a, b] (Int.toNat 0)) ++ strOf (List.take (Int.toNat ((Sym.rowAt [.int .u8] [c, d] (Int.toNat 0)) % 22)) (List.drop 0 (List.replicate (Int.toNat ((Sym.rowAt [.int .u8] [c, d] (Int.toNat 0)) % 22)) 0)))) (strOf (List.take (Int.toNat ((Sym.rowAt [.int .u8] [c, d] (Int.toNat 1)) % 97)) (List.drop 0 (List.replicate (Int.toNat ((Sym.rowAt [.int .u8] [c, d] (Int.toNat 1)) % 97)) 0))))) (insX (hvA L (min L.length 60)) (hvB L (min L.length 60)) (keyS (Sym.rowAt [.int .u8] [a, b] (Int.toNat 0)) ++ strOf (List.take (Int.toNat ((Sym.rowAt [.int .u8] [c, d] (Int.toNat 0)) % 22)) (List.drop 0 (List.replicate (Int.toNat ((Sym.rowAt [.int .u8] [c, d] (Int.toNat 0)) % 22)) 0)))) (strOf (List.take (Int.toNat ((Sym.rowAt [.int .u8] [c, d] (Int.toNat 1)) % 97)) (List.drop 0 (List.replicate (Int.toNat ((Sym.rowAt [.int .u8] [c, d] (Int.toNat 1)) % 97)) 0))))) []) (Int.toNat 0)) = true := by
        have q : atS (((insK (hvA L (min L.length 60)) (hvB L (min L.length 60)) (keyS (Sym.rowAt [.int .u8] [a, b] (Int.toNat 0)) ++ strOf (List.take (Int.toNat ((Sym.rowAt [.int .u8] [c, d] (Int.toNat 0)) % 22)) (List.drop 0 (List.replicate (Int.toNat ((Sym.rowAt [.int .u8] [c, d] (Int.toNat 0)) % 22)) 0)))) (strOf (List.take (Int.toNat ((Sym.rowAt [.int .u8] [c, d] (Int.toNat 1)) % 97)) (List.drop 0 (List.replicate (Int.toNat ((Sym.rowAt [.int .u8] [c, d] (Int.toNat 1)) % 97)) 0)))))).drop n) 0 = atS (insK (hvA L (min L.length 60)) (hvB L (min L.length 60)) (keyS (Sym.rowAt [.int .u8] [a, b] (Int.toNat 0)) ++ strOf (List.take (Int.toNat ((Sym.rowAt [.int .u8] [c, d] (Int.toNat 0)) % 22)) (List.drop 0 (List.replicate (Int.toNat ((Sym.rowAt [.int .u8] [c, d] (Int.toNat 0)) % 22)) 0)))) (strOf (List.take (Int.toNat ((Sym.rowAt [.int .u8] [c, d] (Int.toNat 1)) % 97)) (List.drop 0 (List.replicate (Int.toNat ((Sym.rowAt [.int .u8] [c, d] (Int.toNat 1)) % 97)) 0))))) n := atS_drop (by rw [List.length_drop]; omega)
        rw [e8, e5]
        exact decide_eq_true q.symm
      have kz := kidsZ_nil
      refine pure_of_loops tabPgHv_ok (fuel := 3) (d := 5) [⟨3, [(0, 0), (1, 1), (2, 2)], hvC L a b c d 0, .leaf (.exit 0) (hvC L a b c d (min L.length 60))⟩, ⟨15, [(0, 5), (1, 6), (2, 7)], cpC (insK (hvA L (min L.length 60)) (hvB L (min L.length 60)) (keyS (Sym.rowAt [.int .u8] [a, b] (Int.toNat 0)) ++ strOf (List.take (Int.toNat ((Sym.rowAt [.int .u8] [c, d] (Int.toNat 0)) % 22)) (List.drop 0 (List.replicate (Int.toNat ((Sym.rowAt [.int .u8] [c, d] (Int.toNat 0)) % 22)) 0)))) (strOf (List.take (Int.toNat ((Sym.rowAt [.int .u8] [c, d] (Int.toNat 1)) % 97)) (List.drop 0 (List.replicate (Int.toNat ((Sym.rowAt [.int .u8] [c, d] (Int.toNat 1)) % 97)) 0))))) (insX (hvA L (min L.length 60)) (hvB L (min L.length 60)) (keyS (Sym.rowAt [.int .u8] [a, b] (Int.toNat 0)) ++ strOf (List.take (Int.toNat ((Sym.rowAt [.int .u8] [c, d] (Int.toNat 0)) % 22)) (List.drop 0 (List.replicate (Int.toNat ((Sym.rowAt [.int .u8] [c, d] (Int.toNat 0)) % 22)) 0)))) (strOf (List.take (Int.toNat ((Sym.rowAt [.int .u8] [c, d] (Int.toNat 1)) % 97)) (List.drop 0 (List.replicate (Int.toNat ((Sym.rowAt [.int .u8] [c, d] (Int.toNat 1)) % 97)) 0))))) (s1K true (insK (hvA L (min L.length 60)) (hvB L (min L.length 60)) (keyS (Sym.rowAt [.int .u8] [a, b] (Int.toNat 0)) ++ strOf (List.take (Int.toNat ((Sym.rowAt [.int .u8] [c, d] (Int.toNat 0)) % 22)) (List.drop 0 (List.replicate (Int.toNat ((Sym.rowAt [.int .u8] [c, d] (Int.toNat 0)) % 22)) 0)))) (strOf (List.take (Int.toNat ((Sym.rowAt [.int .u8] [c, d] (Int.toNat 1)) % 97)) (List.drop 0 (List.replicate (Int.toNat ((Sym.rowAt [.int .u8] [c, d] (Int.toNat 1)) % 97)) 0))))) (insX (hvA L (min L.length 60)) (hvB L (min L.length 60)) (keyS (Sym.rowAt [.int .u8] [a, b] (Int.toNat 0)) ++ strOf (List.take (Int.toNat ((Sym.rowAt [.int .u8] [c, d] (Int.toNat 0)) % 22)) (List.drop 0 (List.replicate (Int.toNat ((Sym.rowAt [.int .u8] [c, d] (Int.toNat 0)) % 22)) 0)))) (strOf (List.take (Int.toNat ((Sym.rowAt [.int .u8] [c, d] (Int.toNat 1)) % 97)) (List.drop 0 (List.replicate (Int.toNat ((Sym.rowAt [.int .u8] [c, d] (Int.toNat 1)) % 97)) 0))))) []) (s1X true (insK (hvA L (min L.length 60)) (hvB L (min L.length 60)) (keyS (Sym.rowAt [.int .u8] [a, b] (Int.toNat 0)) ++ strOf (List.take (Int.toNat ((Sym.rowAt [.int .u8] [c, d] (Int.toNat 0)) % 22)) (List.drop 0 (List.replicate (Int.toNat ((Sym.rowAt [.int .u8] [c, d] (Int.toNat 0)) % 22)) 0)))) (strOf (List.take (Int.toNat ((Sym.rowAt [.int .u8] [c, d] (Int.toNat 1)) % 97)) (List.drop 0 (List.replicate (Int.toNat ((Sym.rowAt [.int .u8] [c, d] (Int.toNat 1)) % 97)) 0))))) (insX (hvA L (min L.length 60)) (hvB L (min L.length 60)) (keyS (Sym.rowAt [.int .u8] [a, b] (Int.toNat 0)) ++ strOf (List.take (Int.toNat ((Sym.rowAt [.int .u8] [c, d] (Int.toNat 0)) % 22)) (List.drop 0 (List.replicate (Int.toNat ((Sym.rowAt [.int .u8] [c, d] (Int.toNat 0)) % 22)) 0)))) (strOf (List.take (Int.toNat ((Sym.rowAt [.int .u8] [c, d] (Int.toNat 1)) % 97)) (List.drop 0 (List.replicate (Int.toNat ((Sym.rowAt [.int .u8] [c, d] (Int.toNat 1)) % 97)) 0))))) []) (s2K true (insK (hvA L (min L.length 60)) (hvB L (min L.length 60)) (keyS (Sym.rowAt [.int .u8] [a, b] (Int.toNat 0)) ++ strOf (List.take (Int.toNat ((Sym.rowAt [.int .u8] [c, d] (Int.toNat 0)) % 22)) (List.drop 0 (List.replicate (Int.toNat ((Sym.rowAt [.int .u8] [c, d] (Int.toNat 0)) % 22)) 0)))) (strOf (List.take (Int.toNat ((Sym.rowAt [.int .u8] [c, d] (Int.toNat 1)) % 97)) (List.drop 0 (List.replicate (Int.toNat ((Sym.rowAt [.int .u8] [c, d] (Int.toNat 1)) % 97)) 0))))) (insX (hvA L (min L.length 60)) (hvB L (min L.length 60)) (keyS (Sym.rowAt [.int .u8] [a, b] (Int.toNat 0)) ++ strOf (List.take (Int.toNat ((Sym.rowAt [.int .u8] [c, d] (Int.toNat 0)) % 22)) (List.drop 0 (List.replicate (Int.toNat ((Sym.rowAt [.int .u8] [c, d] (Int.toNat 0)) % 22)) 0)))) (strOf (List.take (Int.toNat ((Sym.rowAt [.int .u8] [c, d] (Int.toNat 1)) % 97)) (List.drop 0 (List.replicate (Int.toNat ((Sym.rowAt [.int .u8] [c, d] (Int.toNat 1)) % 97)) 0))))) []) (s2X true (insK (hvA L (min L.length 60)) (hvB L (min L.length 60)) (keyS (Sym.rowAt [.int .u8] [a, b] (Int.toNat 0)) ++ strOf (List.take (Int.toNat ((Sym.rowAt [.int .u8] [c, d] (Int.toNat 0)) % 22)) (List.drop 0 (List.replicate (Int.toNat ((Sym.rowAt [.int .u8] [c, d] (Int.toNat 0)) % 22)) 0)))) (strOf (List.take (Int.toNat ((Sym.rowAt [.int .u8] [c, d] (Int.toNat 1)) % 97)) (List.drop 0 (List.replicate (Int.toNat ((Sym.rowAt [.int .u8] [c, d] (Int.toNat 1)) % 97)) 0))))) (insX (hvA L (min L.length 60)) (hvB L (min L.length 60)) (keyS (Sym.rowAt [.int .u8] [a, b] (Int.toNat 0)) ++ strOf (List.take (Int.toNat ((Sym.rowAt [.int .u8] [c, d] (Int.toNat 0)) % 22)) (List.drop 0 (List.replicate (Int.toNat ((Sym.rowAt [.int .u8] [c, d] (Int.toNat 0)) % 22)) 0)))) (strOf (List.take (Int.toNat ((Sym.rowAt [.int .u8] [c, d] (Int.toNat 1)) % 97)) (List.drop 0 (List.replicate (Int.toNat ((Sym.rowAt [.int .u8] [c, d] (Int.toNat 1)) % 97)) 0))))) []) 0, .leaf (.exit 2) (cpC (insK (hvA L (min L.length 60)) (hvB L (min L.length 60)) (keyS (Sym.rowAt [.int .u8] [a, b] (Int.toNat 0)) ++ strOf (List.take (Int.toNat ((Sym.rowAt [.int .u8] [c, d] (Int.toNat 0)) % 22)) (List.drop 0 (List.replicate (Int.toNat ((Sym.rowAt [.int .u8] [c, d] (Int.toNat 0)) % 22)) 0)))) (strOf (List.take (Int.toNat ((Sym.rowAt [.int .u8] [c, d] (Int.toNat 1)) % 97)) (List.drop 0 (List.replicate (Int.toNat ((Sym.rowAt [.int .u8] [c, d] (Int.toNat 1)) % 97)) 0))))) (insX (hvA L (min L.length 60)) (hvB L (min L.length 60)) (keyS (Sym.rowAt [.int .u8] [a, b] (Int.toNat 0)) ++ strOf (List.take (Int.toNat ((Sym.rowAt [.int .u8] [c, d] (Int.toNat 0)) % 22)) (List.drop 0 (List.replicate (Int.toNat ((Sym.rowAt [.int .u8] [c, d] (Int.toNat 0)) % 22)) 0)))) (strOf (List.take (Int.toNat ((Sym.rowAt [.int .u8] [c, d] (Int.toNat 1)) % 97)) (List.drop 0 (List.replicate (Int.toNat ((Sym.rowAt [.int .u8] [c, d] (Int.toNat 1)) % 97)) 0))))) (s1K true (insK (hvA L (min L.length 60)) (hvB L (min L.length 60)) (keyS (Sym.rowAt [.int .u8] [a, b] (Int.toNat 0)) ++ strOf (List.take (Int.toNat ((Sym.rowAt [.int .u8] [c, d] (Int.toNat 0)) % 22)) (List.drop 0 (List.replicate (Int.toNat ((Sym.rowAt [.int .u8] [c, d] (Int.toNat 0)) % 22)) 0)))) (strOf (List.take (Int.toNat ((Sym.rowAt [.int .u8] [c, d] (Int.toNat 1)) % 97)) (List.drop 0 (List.replicate (Int.toNat ((Sym.rowAt [.int .u8] [c, d] (Int.toNat 1)) % 97)) 0))))) (insX (hvA L (min L.length 60)) (hvB L (min L.length 60)) (keyS (Sym.rowAt [.int .u8] [a, b] (Int.toNat 0)) ++ strOf (List.take (Int.toNat ((Sym.rowAt [.int .u8] [c, d] (Int.toNat 0)) % 22)) (List.drop 0 (List.replicate (Int.toNat ((Sym.rowAt [.int .u8] [c, d] (Int.toNat 0)) % 22)) 0)))) (strOf (List.take (Int.toNat ((Sym.rowAt [.int .u8] [c, d] (Int.toNat 1)) % 97)) (List.drop 0 (List.replicate (Int.toNat ((Sym.rowAt [.int .u8] [c, d] (Int.toNat 1)) % 97)) 0))))) []) (s1X true (insK (hvA L (min L.length 60)) (hvB L (min L.length 60)) (keyS (Sym.rowAt [.int .u8] [a, b] (Int.toNat 0)) ++ strOf (List.take (Int.toNat ((Sym.rowAt [.int .u8] [c, d] (Int.toNat 0)) % 22)) (List.drop 0 (List.replicate (Int.toNat ((Sym.rowAt [.int .u8] [c, d] (Int.toNat 0)) % 22)) 0)))) (strOf (List.take (Int.toNat ((Sym.rowAt [.int .u8] [c, d] (Int.toNat 1)) % 97)) (List.drop 0 (List.replicate (Int.toNat ((Sym.rowAt [.int .u8] [c, d] (Int.toNat 1)) % 97)) 0))))) (insX (hvA L (min L.length 60)) (hvB L (min L.length 60)) (keyS (Sym.rowAt [.int .u8] [a, b] (Int.toNat 0)) ++ strOf (List.take (Int.toNat ((Sym.rowAt [.int .u8] [c, d] (Int.toNat 0)) % 22)) (List.drop 0 (List.replicate (Int.toNat ((Sym.rowAt [.int .u8] [c, d] (Int.toNat 0)) % 22)) 0)))) (strOf (List.take (Int.toNat ((Sym.rowAt [.int .u8] [c, d] (Int.toNat 1)) % 97)) (List.drop 0 (List.replicate (Int.toNat ((Sym.rowAt [.int .u8] [c, d] (Int.toNat 1)) % 97)) 0))))) []) (s2K true (insK (hvA L (min L.length 60)) (hvB L (min L.length 60)) (keyS (Sym.rowAt [.int .u8] [a, b] (Int.toNat 0)) ++ strOf (List.take (Int.toNat ((Sym.rowAt [.int .u8] [c, d] (Int.toNat 0)) % 22)) (List.drop 0 (List.replicate (Int.toNat ((Sym.rowAt [.int .u8] [c, d] (Int.toNat 0)) % 22)) 0)))) (strOf (List.take (Int.toNat ((Sym.rowAt [.int .u8] [c, d] (Int.toNat 1)) % 97)) (List.drop 0 (List.replicate (Int.toNat ((Sym.rowAt [.int .u8] [c, d] (Int.toNat 1)) % 97)) 0))))) (insX (hvA L (min L.length 60)) (hvB L (min L.length 60)) (keyS (Sym.rowAt [.int .u8] [a, b] (Int.toNat 0)) ++ strOf (List.take (Int.toNat ((Sym.rowAt [.int .u8] [c, d] (Int.toNat 0)) % 22)) (List.drop 0 (List.replicate (Int.toNat ((Sym.rowAt [.int .u8] [c, d] (Int.toNat 0)) % 22)) 0)))) (strOf (List.take (Int.toNat ((Sym.rowAt [.int .u8] [c, d] (Int.toNat 1)) % 97)) (List.drop 0 (List.replicate (Int.toNat ((Sym.rowAt [.int .u8] [c, d] (Int.toNat 1)) % 97)) 0))))) []) (s2X true (insK (hvA L (min L.length 60)) (hvB L (min L.length 60)) (keyS (Sym.rowAt [.int .u8] [a, b] (Int.toNat 0)) ++ strOf (List.take (Int.toNat ((Sym.rowAt [.int .u8] [c, d] (Int.toNat 0)) % 22)) (List.drop 0 (List.replicate (Int.toNat ((Sym.rowAt [.int .u8] [c, d] (Int.toNat 0)) % 22)) 0)))) (strOf (List.take (Int.toNat ((Sym.rowAt [.int .u8] [c, d] (Int.toNat 1)) % 97)) (List.drop 0 (List.replicate (Int.toNat ((Sym.rowAt [.int .u8] [c, d] (Int.toNat 1)) % 97)) 0))))) (insX (hvA L (min L.length 60)) (hvB L (min L.length 60)) (keyS (Sym.rowAt [.int .u8] [a, b] (Int.toNat 0)) ++ strOf (List.take (Int.toNat ((Sym.rowAt [.int .u8] [c, d] (Int.toNat 0)) % 22)) (List.drop 0 (List.replicate (Int.toNat ((Sym.rowAt [.int .u8] [c, d] (Int.toNat 0)) % 22)) 0)))) (strOf (List.take (Int.toNat ((Sym.rowAt [.int .u8] [c, d] (Int.toNat 1)) % 97)) (List.drop 0 (List.replicate (Int.toNat ((Sym.rowAt [.int .u8] [c, d] (Int.toNat 1)) % 97)) 0))))) []) ((insK (hvA L (min L.length 60)) (hvB L (min L.length 60)) (keyS (Sym.rowAt [.int .u8] [a, b] (Int.toNat 0)) ++ strOf (List.take (Int.toNat ((Sym.rowAt [.int .u8] [c, d] (Int.toNat 0)) % 22)) (List.drop 0 (List.replicate (Int.toNat ((Sym.rowAt [.int .u8] [c, d] (Int.toNat 0)) % 22)) 0)))) (strOf (List.take (Int.toNat ((Sym.rowAt [.int .u8] [c, d] (Int.toNat 1)) % 97)) (List.drop 0 (List.replicate (Int.toNat ((Sym.rowAt [.int .u8] [c, d] (Int.toNat 1)) % 97)) 0)))))).length)⟩] ?_ ?_
      · intro N y hy
        rcases List.mem_cons.1 hy with rfl | hy
        · exact hv_loop L a b c d hL hz N
        · rw [List.mem_singleton.1 hy]
          exact cp_loop (insK (hvA L (min L.length 60)) (hvB L (min L.length 60)) (keyS (Sym.rowAt [.int .u8] [a, b] (Int.toNat 0)) ++ strOf (List.take (Int.toNat ((Sym.rowAt [.int .u8] [c, d] (Int.toNat 0)) % 22)) (List.drop 0 (List.replicate (Int.toNat ((Sym.rowAt [.int .u8] [c, d] (Int.toNat 0)) % 22)) 0)))) (strOf (List.take (Int.toNat ((Sym.rowAt [.int .u8] [c, d] (Int.toNat 1)) % 97)) (List.drop 0 (List.replicate (Int.toNat ((Sym.rowAt [.int .u8] [c, d] (Int.toNat 1)) % 97)) 0))))) (insX (hvA L (min L.length 60)) (hvB L (min L.length 60)) (keyS (Sym.rowAt [.int .u8] [a, b] (Int.toNat 0)) ++ strOf (List.take (Int.toNat ((Sym.rowAt [.int .u8] [c, d] (Int.toNat 0)) % 22)) (List.drop 0 (List.replicate (Int.toNat ((Sym.rowAt [.int .u8] [c, d] (Int.toNat 0)) % 22)) 0)))) (strOf (List.take (Int.toNat ((Sym.rowAt [.int .u8] [c, d] (Int.toNat 1)) % 97)) (List.drop 0 (List.replicate (Int.toNat ((Sym.rowAt [.int .u8] [c, d] (Int.toNat 1)) % 97)) 0))))) _ _ _ _ n (by omega) b3 e2 e3 e5 e6 (by omega) N
      · repeat' ((conv => whnf); first | (with_reducible first | (refine W1.o ?_; constructor) | rfl | exact castL_self _ _) | ((with_reducible refine V.same_t ?_); exact rfl) | ((with_reducible refine andB_room ?_ ?_ ?_); (· kernel_rfl); (· (first | omega | (simp only [lens] <;> omega)))) | ((with_reducible refine W2.o ?_; constructor); · (first | (with_reducible assumption) | (first | omega | (simp only [lens] <;> omega)))) | ((with_reducible refine W3.o ?_; constructor); · (first | (with_reducible assumption) | (first | omega | (simp only [lens] <;> omega)))) | ((with_reducible refine W4.o ?_; constructor); · (first | (with_reducible first | assumption | exact decide_eq_true rfl | exact sEq_self _) | ((with_reducible refine eqOK_i ?_); kernel_rfl) | (first | exact hq | exact F1 | exact F2 | exact S1 | exact kz))) | ((with_reducible refine iteB_f ?_ ?_); · (first | (with_reducible first | assumption | exact decide_eq_true rfl | exact sEq_self _) | ((with_reducible refine eqOK_i ?_); kernel_rfl) | (first | exact hq | exact F1 | exact F2 | exact S1 | exact kz))) | (with_reducible refine CD.wk_au ?_) | (with_reducible refine W5.o ?_; constructor) | ((with_reducible refine W6.o ?_; constructor) <;> intro hB))
        all_goals ((conv => whnf); (try dsimp only); (try simp only [Nat.succ_eq_add_one, Nat.le_eq, castL_self]); (try omega))
        all_goals (try (first | omega | (simp only [lens] <;> omega)))
        all_goals first
          | omega
          | exact z1.symm
          | exact z2.symm
          | (show 1 * _ ≤ _; omega)
          | rfl
          | trace_state
end
end Go.Proofs.Ytlfhiophojahbaa
end

section
namespace Go.Sym
open Go.ChangeShapes Go.WideShapes

def kLo : IntKind → Int
  | .i8 => -128
  | .i16 => -32768
  | .i32 => -2147483648
  | .i64 => -9223372036854775808
  | _ => 0
def kHi : IntKind → Int
  | .i8 => 128
  | .i16 => 32768
  | .i32 => 2147483648
  | .i64 => 9223372036854775808
  | .u8 => 256
  | .u16 => 65536
  | .u32 => 4294967296
  | .u64 => 18446744073709551616
mutual
def wfT : (t : Ty) → t.den → Prop
  | .int k, n => (fun n : Int => kLo k ≤ n ∧ n < kHi k) n
  | .bool, _ => True
  | .str, s => ByteArray.size s ≤ 9223372036854775807
  | .lst e, L => List.length (α := rowDen e) L ≤ 9223372036854775807 ∧ ∀ i, i < List.length (α := rowDen e) L → wfR e (rowAt e L i)
def wfR : (e : List Ty) → rowDen e → Prop
  | [], _ => True
  | [t], x => wfT t x
  | t :: u :: ts, x => wfT t x.1 ∧ wfR (u :: ts) x.2
end
def repT (r : List Ty) : Nat → List Ty
  | 0 => []
  | n + 1 => r ++ repT r n
noncomputable section
variable (P : Program)
def layF (f : TypeId → Option (List Ty)) : Nat → List Field → Option (List Ty)
  | _, [] => some []
  | off, fd :: l => match f fd.type with
    | some a => bif Nat.beq fd.offset off && Nat.beq (P.cellsOf fd.type) a.length then (match layF f (off + a.length) l with
      | some b => some (a ++ b)
      | none => none) else none
    | none => none
def layE : Nat → TypeId → Option (List Ty)
  | 0, _ => none
  | n + 1, t => match P.underlying t with
    | some (.int k) => some [.int k]
    | some .bool => some [.bool]
    | some .string => some [.str]
    | some (.slice e) => match layE n e with
      | some r => bif Nat.beq (P.cellsOf e) r.length && Nat.blt 0 r.length then some [.lst r] else none
      | none => none
    | some (.struct fs) => match layF P (layE n) 0 fs.toList with
      | some e => bif Nat.beq (P.cellsOf t) e.length then some e else none
      | none => none
    | some (.array m el) => match layE n el with
      | some r => bif Nat.beq (P.cellsOf el) r.length && Nat.beq (P.cellsOf t) (repT r m).length then some (repT r m) else none
      | none => none
    | _ => none
end

theorem addr_addN (b o j : Nat) : (⟨b, o, none⟩ : Addr).add j = ⟨b, o + j, none⟩ := by
  unfold Addr.add
  split
  · rename_i h; subst h; rfl
  · rfl
theorem wfR_nil (x : rowDen []) : wfR [] x := by rw [wfR]; trivial
theorem wfR_one {t : Ty} (x : rowDen [t]) (h : wfT t x) : wfR [t] x := by rw [wfR]; exact h
theorem wfR_cons {t u : Ty} {ts : List Ty} (x : rowDen (t :: u :: ts)) (h1 : wfT t x.1) (h2 : wfR (u :: ts) x.2) : wfR (t :: u :: ts) x := by rw [wfR]; exact ⟨h1, h2⟩
theorem of_wfR_one {t : Ty} (x : rowDen [t]) (h : wfR [t] x) : wfT t x := by rw [wfR] at h; exact h
theorem of_CRel_one {φ : Nat → Nat → Option Value} {t : Ty} (x : rowDen [t]) {C : Nat → Option Value} (h : CRel φ [t] x C) : ∃ X, C 0 = some X ∧ TRel φ t x X := by rw [CRel] at h; exact h
theorem wfT_int {k : IntKind} {n : (Ty.int k).den} (h : (fun n : Int => kLo k ≤ n ∧ n < kHi k) n) : wfT (.int k) n := by rw [wfT]; exact h
theorem wfT_bool (b : Ty.bool.den) : wfT .bool b := by rw [wfT]; trivial
theorem wfT_str {s : Ty.str.den} (h : ByteArray.size s ≤ 9223372036854775807) : wfT .str s := by rw [wfT]; exact h
theorem wfT_lst {e : List Ty} (L : (Ty.lst e).den) (h : List.length (α := rowDen e) L ≤ 9223372036854775807) (h2 : ∀ i, i < List.length (α := rowDen e) L → wfR e (rowAt e L i)) : wfT (.lst e) L := by rw [wfT]; exact ⟨h, h2⟩
theorem crel_app {φ : Nat → Nat → Option Value} : ∀ (e1 e2 : List Ty) (C : Nat → Option Value), (∃ x, wfR e1 x ∧ CRel φ e1 x C) → (∃ x, wfR e2 x ∧ CRel φ e2 x (fun j => C (e1.length + j))) → ∃ x, wfR (e1 ++ e2) x ∧ CRel φ (e1 ++ e2) x C
  | [], e2, C, _, h2 => by
    obtain ⟨x, h3, h4⟩ := h2
    refine ⟨x, h3, ?_⟩
    have : (fun j => C (([] : List Ty).length + j)) = C := by funext j; rw [List.length_nil, Nat.zero_add]
    rw [this] at h4
    exact h4
  | [t], [], C, h1, _ => h1
  | [t], u :: us, C, ⟨x, h3, h4⟩, ⟨y, h5, h6⟩ => by
    have : (fun j => C ([t].length + j)) = fun j => C (j + 1) := by funext j; rw [List.length_singleton, Nat.add_comm]
    rw [this] at h6
    exact ⟨(x, y), wfR_cons (t := t) (u := u) (ts := us) (x, y) (of_wfR_one x h3) h5, CRel_cons (t := t) (u := u) (ts := us) (x, y) (of_CRel_one x h4) h6⟩
  | t :: u :: us, e2, C, ⟨x, h3, h4⟩, h2 => by
    rw [wfR] at h3
    rw [CRel] at h4
    obtain ⟨y, h5, h6⟩ := crel_app (u :: us) e2 (fun j => C (j + 1)) ⟨x.2, h3.2, h4.2⟩ (by
      obtain ⟨z, h7, h8⟩ := h2
      refine ⟨z, h7, ?_⟩
      have : (fun j => C ((t :: u :: us).length + j)) = fun j => C ((u :: us).length + j + 1) := by funext j; congr 1; simp only [List.length_cons]; omega
      rw [this] at h8
      exact h8)
    exact ⟨(x.1, y), wfR_cons (t := t) (u := u) (ts := us ++ e2) (x.1, y) h3.1 h5, CRel_cons (t := t) (u := u) (ts := us ++ e2) (x.1, y) h4.1 h6⟩

section
variable {H : Type} {enc : TypeId × Value → H} {P : Program} {w : World} {base : Nat} {spare : Nat → Bool} {held : Bool}
abbrev φW (w : World) : Nat → Nat → Option Value := fun B k => w.cell? ⟨B, k, none⟩
def LayOK (enc : TypeId × Value → H) (P : Program) (w : World) (base : Nat) (spare : Nat → Bool) (held : Bool) (f : TypeId → Option (List Ty)) : Prop :=
  ∀ t e, f t = some e → ∀ fuel cs x, DataW.trod enc P w base spare held fuel t cs = some x → cs.length = e.length ∧ ∃ r, wfR e r ∧ CRel (φW w) e r (fun j => cs[j]?)
theorem layF_ok {f : TypeId → Option (List Ty)} (hf : LayOK enc P w base spare held f) {n : Nat} {cs : List Value} : ∀ (l : List Field) (off : Nat) (e : List Ty), layF P f off l = some e → off + e.length ≤ cs.length →
    (∀ (i : Nat) (fd : Field), l[i]? = some fd → ∃ y, DataW.trod enc P w base spare held n fd.type ((cs.drop fd.offset).take (P.cellsOf fd.type)) = some y) →
    ∃ r, wfR e r ∧ CRel (φW w) e r (fun j => cs[off + j]?)
  | [], off, e, h, _, _ => by
    cases h
    exact ⟨(), wfR_nil (), CRel_nil () _⟩
  | fd :: l, off, e, h, hle, ht => by
    rw [layF] at h
    split at h
    · rename_i a ha
      cases hb : (Nat.beq fd.offset off && Nat.beq (P.cellsOf fd.type) a.length) with
      | false => rw [hb] at h; cases h
      | true =>
        rw [hb, cond_true] at h
        rw [Bool.and_eq_true, Nat.beq_eq, Nat.beq_eq] at hb
        split at h
        · rename_i b hbb
          cases h
          rw [List.length_append] at hle
          obtain ⟨y, hy⟩ := ht 0 fd rfl
          obtain ⟨h1, r, h2, h3⟩ := hf _ _ ha _ _ _ hy
          refine crel_app a b _ ⟨r, h2, ?_⟩ ?_
          · refine CRel.mono (fun _ _ _ h => h) a r (fun j v hj => ?_) h3
            rw [List.getElem?_take] at hj
            split at hj
            · rw [List.getElem?_drop, hb.1] at hj; exact hj
            · cases hj
          · obtain ⟨r', h4, h5⟩ := layF_ok hf l (off + a.length) b hbb (by omega) fun i fd' hi => ht (i + 1) fd' (by simpa using hi)
            exact ⟨r', h4, CRel.mono (fun _ _ _ h => h) b r' (fun j v hj => by rw [← Nat.add_assoc]; exact hj) h5⟩
        · cases h
    · cases h
theorem layA_ok {f : TypeId → Option (List Ty)} (hf : LayOK enc P w base spare held f) {m : Nat} {cs : List Value} {el : TypeId} {r : List Ty} (hr : f el = some r) (hb : P.cellsOf el = r.length) : ∀ (n off : Nat), off + (repT r n).length ≤ cs.length →
    (∀ i, i < n → ∃ y, DataW.trod enc P w base spare held m el ((cs.drop (off + i * r.length)).take r.length) = some y) →
    ∃ x, wfR (repT r n) x ∧ CRel (φW w) (repT r n) x (fun j => cs[off + j]?)
  | 0, off, _, _ => ⟨(), wfR_nil (), CRel_nil () _⟩
  | n + 1, off, hle, ht => by
    have hle' : off + (r.length + (repT r n).length) ≤ cs.length := by rw [repT, List.length_append] at hle; exact hle
    obtain ⟨y, hy⟩ := ht 0 (Nat.zero_lt_succ _)
    rw [Nat.zero_mul, Nat.add_zero] at hy
    obtain ⟨h1, x, h2, h3⟩ := hf _ _ hr _ _ _ hy
    refine crel_app r (repT r n) _ ⟨x, h2, ?_⟩ ?_
    · refine CRel.mono (fun _ _ _ h => h) r x (fun j v hj => ?_) h3
      rw [List.getElem?_take] at hj
      split at hj
      · rw [List.getElem?_drop] at hj; exact hj
      · cases hj
    · obtain ⟨x', h4, h5⟩ := layA_ok (cs := cs) (m := m) hf hr hb n (off + r.length) (by rw [Nat.add_assoc]; exact hle') fun i hi => by
        obtain ⟨y, hy⟩ := ht (i + 1) (by omega)
        rw [Nat.succ_mul, Nat.add_comm (i * r.length), ← Nat.add_assoc] at hy
        exact ⟨y, hy⟩
      exact ⟨x', h4, CRel.mono (fun _ _ _ h => h) _ x' (fun j v hj => by rw [← Nat.add_assoc]; exact hj) h5⟩
theorem lay_ok : ∀ n : Nat, LayOK enc P w base spare held (layE P n)
  | 0 => fun t e h => by cases h
  | n + 1 => fun t e h fuel cs x hx => by
    have ih := lay_ok n
    rw [layE] at h
    split at h
    · rename_i k hu
      cases h
      obtain ⟨q, rfl, _, hw⟩ := DataW.trod_int hu hx
      refine ⟨rfl, q, wfR_one (t := .int k) q (wfT_int ?_), CRel_one (t := .int k) q rfl (TRel_int k q)⟩
      cases k <;> simp [Lit.wf, IntKind.min, IntKind.max, IntKind.signed, IntKind.bits, kLo, kHi] at hw ⊢ <;> omega
    · rename_i hu
      cases h
      obtain ⟨q, rfl, _⟩ := DataW.trod_bool hu hx
      exact ⟨rfl, q, wfR_one (t := .bool) q (wfT_bool q), CRel_one (t := .bool) q rfl (TRel_bool q)⟩
    · rename_i hu
      cases h
      obtain ⟨q, rfl, _, hw⟩ := DataW.trod_string hu hx
      unfold maxLen at hw
      exact ⟨rfl, q, wfR_one (t := .str) q (wfT_str (by omega)), CRel_one (t := .str) q rfl (TRel_str q)⟩
    · rename_i el hu
      split at h
      · rename_i r hr
        cases hb : (Nat.beq (P.cellsOf el) r.length && Nat.blt 0 r.length) with
        | false => rw [hb] at h; cases h
        | true =>
          rw [hb, cond_true] at h
          rw [Bool.and_eq_true, Nat.beq_eq, blt_iff, decide_eq_true_eq] at hb
          obtain ⟨hb, hz⟩ := hb
          cases h
          rcases Go.Deep.open_slice hu hx with ⟨rfl, _⟩ | ⟨a, len, cap, m, n', D, Pl, rfl, _, hl, hm, hmm, rfl, hc⟩
          · exact ⟨rfl, ([] : List (rowDen r)), wfR_one (t := .lst r) ([] : List (rowDen r)) (wfT_lst (e := r) ([] : List (rowDen r)) (Nat.zero_le _) fun i hi => absurd hi (Nat.not_lt_zero _)),
              CRel_one (t := .lst r) ([] : List (rowDen r)) rfl (TRel_lstU (e := r) ([] : List (rowDen r)) (Nat.le_refl _) (fun _ => rfl) fun h => absurd h (Nat.lt_irrefl _))⟩
          · have hlm : len ≤ m := by subst hmm; split <;> omega
            have hr1 : ∀ i, i < len → ∃ y, wfR r y ∧ CRel (φW w) r y (fun j => w.cell? (a.add (i * r.length + j))) ∧ (i = 0 → a.spot = none) := by
              intro i hi
              obtain ⟨cs', h1, h2⟩ := hc i (by omega)
              obtain ⟨h3, y, h4, h5⟩ := ih _ _ hr _ _ _ h2
              obtain ⟨_, h6, h7⟩ := World.cells?_some h1
              refine ⟨y, h4, CRel.mono (fun _ _ _ h => h) r y (fun j v hj => ?_) h5, fun h0 => ?_⟩
              · have hlt : j < cs'.length := (List.getElem?_eq_some_iff.1 hj).1
                have := h7 j (by omega)
                rw [hb, Go.Deep.add_add] at this
                rw [this]; exact hj
              · subst h0
                have := h7 0 (by omega)
                rw [List.getElem?_eq_getElem (by omega), Nat.zero_mul] at this
                exact World.cell?_spot this
            have : Inhabited (rowDen r) := ⟨rowDflt r⟩
            obtain ⟨g, hg⟩ := Go.Deep.choose_lt hr1
            have hat : ∀ i, i < len → rowAt r ((List.range len).map g) i = g i := fun i hi => by
              unfold rowAt
              simp [List.getD_eq_getElem?_getD, hi]
            have hlen : ((List.range len).map g).length = len := by simp
            refine ⟨rfl, (List.range len).map g, wfR_one (t := .lst r) _ (wfT_lst _ ?_ fun i hi => ?_), CRel_one (t := .lst r) _ (X := .slice (some a) len cap) rfl ?_⟩
            · rw [hlen]; unfold maxLen at hm; omega
            · rw [hlen] at hi
              rw [hat i hi]
              exact (hg i hi).1
            · have ht := TRel_lstU (e := r) (φ := φW w) ((List.range len).map g) (a := some a) (c := cap) (by rw [hlen]; exact hl) (fun h => (by cases h)) (fun h0 => ?_)
              · rw [hlen] at ht; exact ht
              rw [hlen] at h0 ⊢
              have hsp := (hg 0 h0).2.2 rfl
              refine ⟨a.block, a.off, by cases a; simp only at hsp; rw [hsp], fun i hi => ?_⟩
              rw [hat i hi]
              refine CRel.mono (fun _ _ _ h => h) r _ (fun j v hj => ?_) (hg i hi).2.1
              have e : a = ⟨a.block, a.off, none⟩ := by cases a; simp only at hsp; rw [hsp]
              rw [e, addr_addN] at hj
              rw [Nat.add_assoc]
              exact hj
      · cases h
    · rename_i fs hu
      split at h
      · rename_i e' he
        cases hb : Nat.beq (P.cellsOf t) e'.length with
        | false => rw [hb] at h; cases h
        | true =>
          rw [hb, cond_true] at h
          cases h
          have hb := Nat.eq_of_beq_eq_true hb
          obtain ⟨xs, m, _, _, hl, hlen, hf⟩ := DataW.trod_struct hu hx
          refine ⟨by omega, ?_⟩
          obtain ⟨r, h1, h2⟩ := layF_ok ih (n := m) (cs := cs) fs.toList 0 e he (by omega) fun i fd hi => by
            have hi : fs[i]? = some fd := by simpa using hi
            exact ⟨_, (hf i fd hi).trans (List.getElem?_eq_getElem (by have := (Array.getElem?_eq_some_iff.1 hi).1; omega))⟩
          exact ⟨r, h1, CRel.mono (fun _ _ _ h => h) e r (fun j v hj => by rwa [Nat.zero_add] at hj) h2⟩
      · cases h
    · rename_i m el hu
      split at h
      · rename_i r hr
        cases hb : (Nat.beq (P.cellsOf el) r.length && Nat.beq (P.cellsOf t) (repT r m).length) with
        | false => rw [hb] at h; cases h
        | true =>
          rw [hb, cond_true] at h
          rw [Bool.and_eq_true, Nat.beq_eq, Nat.beq_eq] at hb
          cases h
          obtain ⟨xs, m', _, _, hl, hlen, hf⟩ := DataW.trod_array hu hx
          refine ⟨by omega, ?_⟩
          obtain ⟨y, h1, h2⟩ := layA_ok ih (m := m') (cs := cs) hr hb.1 m 0 (by omega) fun i hi => by
            have := hf i hi
            rw [hb.1] at this
            rw [Nat.zero_add]
            exact ⟨_, this.trans (List.getElem?_eq_getElem (by omega))⟩
          exact ⟨y, h1, CRel.mono (fun _ _ _ h => h) _ y (fun j v hj => by rwa [Nat.zero_add] at hj) h2⟩
      · cases h
    · cases h

theorem crel_rowV {φ : Nat → Nat → Option Value} : ∀ (e : List Ty) (x : rowDen e) (A : List Value), A.length = e.length → CRel φ e x (fun j => A[j]?) → LRel (envφ φ) (rowV e x) A
  | [], _, A, h, _ => by cases A <;> simp at h; exact rfl
  | [t], x, A, h, hc => by
    match A, h with
    | [a], _ =>
      rw [CRel] at hc
      obtain ⟨X, h1, h2⟩ := hc
      cases h1
      exact ⟨a, [], rfl, toV_rel t x a h2, rfl⟩
  | t :: u :: ts, x, A, h, hc => by
    match A, h with
    | a :: A, h =>
      rw [CRel] at hc
      obtain ⟨⟨X, h1, h2⟩, h3⟩ := hc
      cases h1
      exact ⟨a, A, rfl, toV_rel t x.1 a h2, crel_rowV (u :: ts) x.2 A (by simpa using h) h3⟩
where
  toV_rel (t : Ty) (x : t.den) (a : Value) (h : TRel φ t x a) : VRel (envφ φ) (toV t x) a := by
    cases t with
    | int k => rw [TRel] at h; simp only [toV, VRel]; exact h
    | bool => rw [TRel] at h; simp only [toV, VRel]; exact h
    | str => rw [TRel] at h; simp only [toV, VRel]; exact h
    | lst e =>
      rw [TRel] at h
      simp only [toV, VRel]
      obtain ⟨a', c, h1, h2, h3, h4⟩ := h
      refine ⟨a', c, h1, h2, fun h => (by cases h), h3, fun hp => ?_⟩
      obtain ⟨B, o, h5, h6⟩ := h4 hp
      refine ⟨B, o, h5, fun i hi => ?_⟩
      refine CRel.mono (fun _ _ _ h => h) e _ (fun j v hj => ?_) (h6 i hi)
      show φ B (o + (i * e.length + j)) = some v
      rw [← Nat.add_assoc]
      exact hj
theorem okWide_array {n : Nat} {e t : TypeId} {v : Value} {r : Go.Reach} {b0 : Nat} {W : World} (ht : P.underlying t = some (.array n e)) (h : Value.okWide P W r b0 t v) : ∃ cs, v = .agg cs ∧ cs.size = P.cellsOf t := by
  simp only [Value.okWide, ht] at h
  obtain ⟨cs, h1, h2, _⟩ := h
  exact ⟨cs, h1, h2⟩
theorem arg_array {n m : Nat} {t el : TypeId} {e : List Ty} {v : Value} {d : DataW H} {p : List MemPlace} {r : Go.Reach} {b0 : Nat} {W : World} (hu : P.underlying t = some (.array m el)) (hl : layE P n t = some e)
    (k : Value.okWide P W r b0 t v) (h : DataW.Trod enc P w base spare held t v d p) : ∃ x : rowDen e, wfR e x ∧ VRel (envφ (φW w)) (.agg (rowV e x)) v := by
  obtain ⟨A, rfl, hA⟩ := okWide_array hu k
  obtain ⟨fuel, hf⟩ := h
  have hf' : DataW.trod enc P w base spare held fuel t A.toList = some (d, p) := by simpa [Value.cells] using hf
  obtain ⟨h1, x, h2, h3⟩ := lay_ok n t e hl _ _ _ hf'
  exact ⟨x, h2, by simp only [VRel]; exact ⟨A, rfl, crel_rowV e x _ h1 h3⟩⟩
theorem arg_one {n : Nat} {t : TypeId} {t0 : Ty} {v : Value} {d : DataW H} {p : List MemPlace} (hl : layE P n t = some [t0]) (hc : v.cells = #[v])
    (h : DataW.Trod enc P w base spare held t v d p) : ∃ x : t0.den, wfT t0 x ∧ VRel (envφ (φW w)) (toV t0 x) v := by
  obtain ⟨fuel, hf⟩ := h
  rw [hc] at hf
  obtain ⟨h1, x, h2, h3⟩ := lay_ok n t [t0] hl _ _ _ hf
  rw [wfR] at h2
  rw [CRel] at h3
  obtain ⟨X, h4, h5⟩ := h3
  cases h4
  exact ⟨x, h2, crel_rowV.toV_rel t0 x v h5⟩
theorem arg_slice {n : Nat} {t el : TypeId} {e : List Ty} {v : Value} {d : DataW H} {p : List MemPlace} {r : Go.Reach} {b0 : Nat} {W : World} (hu : P.underlying t = some (.slice el)) (hl : layE P n t = some [.lst e]) (k : Value.okWide P W r b0 t v)
    (h : DataW.Trod enc P w base spare held t v d p) : ∃ L : List (rowDen e), wfT (.lst e) L ∧ VRel (envφ (φW w)) (.lst e L false) v := by
  obtain ⟨a, len, cap, rfl⟩ := okWide_slice hu k
  exact arg_one (t0 := .lst e) hl rfl h
end
end Go.Sym
end

section
namespace Go.Proofs.Ytlfhiophojahbaa
open Go.Sym Go.WideShapes
open Go.RowKit (Below)
set_option maxRecDepth 100000
theorem pageHalves_fin {H : Type} {enc : TypeId × Value → H} {base : Nat} (W : World) (v0 : Value) (v1 : Value) (v2 : Value) {d0 : DataW H} {d1 : DataW H} {d2 : DataW H} {p0 : List MemPlace} {p1 : List MemPlace} {p2 : List MemPlace} (k0 : Value.okWide Try.prog W .any base 77 v0) (k1 : Value.okWide Try.prog W .any base 78 v1) (k2 : Value.okWide Try.prog W .any base 78 v2) (h0 : DataW.Trod enc Try.prog W 0 (fun _ => true) true 77 v0 d0 p0) (h1 : DataW.Trod enc Try.prog W 0 (fun _ => true) true 78 v1 d1 p1) (h2 : DataW.Trod enc Try.prog W 0 (fun _ => true) true 78 v2 d2 p2) (lt0 : ∀ x ∈ p0, x.block < W.heap.size) (lt1 : ∀ x ∈ p1, x.block < W.heap.size) (lt2 : ∀ x ∈ p2, x.block < W.heap.size) :
    Calls Try.prog 8 #[v0, v1, v2] W fun e w' => e = .returned (.bool true) ∧ Below W.heap.size W w' := by
  obtain ⟨L, w0, g0⟩ := arg_slice (n := 6) (e := [.int .u8, .int .u8]) Try.underlying77 (by kernel_rfl) k0 h0
  obtain ⟨x, w1, g1⟩ := arg_array (n := 6) (e := [.int .u8, .int .u8]) Try.underlying78 (by kernel_rfl) k1 h1
  obtain ⟨y, w2, g2⟩ := arg_array (n := 6) (e := [.int .u8, .int .u8]) Try.underlying78 (by kernel_rfl) k2 h2
  rw [wfT] at w0
  simp only [wfR, wfT] at w1 w2
  refine pure_true (pageHalves_at L x.1 x.2 y.1 y.2 w0.1 (fun j hj => ?_) w1.1 w1.2 w2.1 w2.2) W _ ⟨_, _, rfl, g0, _, _, rfl, g1, _, _, rfl, g2, rfl⟩
  have := w0.2 j hj
  simp only [wfR, wfT] at this
  exact this
end Go.Proofs.Ytlfhiophojahbaa
end

section
namespace Go.Eng
open Go.RowKit Go.ChangeShapes Go.WideShapes

section
variable {H : Type} {enc : TypeId × Value → H} {P : Program} {f : Func} {s : ChangeSpec} {apart fresh handsOn again : Bool} {W W' : World} {args : Array Value} {v : Value} {ds gs : List (DataW H)} {before : List MemPlace}

theorem post_low (hW : DataW.Whole enc P f.params.toList s.vars apart W args.toList ds gs before) (hb : Below W.heap.size W W')
    (pa pv : List MemPlace) (hp : before = pa ++ pv)
    (hr : ∀ (b : Nat) (sp : Nat → Bool) (hd : Bool), DataW.TrodAll enc P W' b sp hd f.resultTypes.toList (v.resultList f.resultTypes.size) (s.fn H (ds ++ gs)).results [])
    (ha : ∀ sp : Nat → Bool, (∀ p ∈ before, sp p.block = true) → DataW.TrodAll enc P W' 0 sp true f.params.toList args.toList (s.fn H (ds ++ gs)).args pa)
    (hv : ∀ sp : Nat → Bool, (∀ p ∈ before, sp p.block = true) → DataW.TrodVars enc P W' sp s.vars (s.fn H (ds ++ gs)).vars pv)
    (hok : ∀ (j : Nat) (t : TypeId) (r : Value), f.resultTypes[j]? = some t → (v.resultList f.resultTypes.size)[j]? = some r → Value.okWide P W' .any 0 t r) :
    s.post enc P f apart fresh handsOn again W args v W' := by
  have low : ∀ p ∈ before, p.block < W.heap.size := fun p h => hW.lt p h
  have seen : ∀ p ∈ before, decide (p.block < W.heap.size) = true := fun p h => decide_eq_true (low p h)
  have kept : W.keptBut W' fun p => p ∈ before ∧ (p ∈ pa ∨ p ∈ pv) :=
    World.keptBut_mono (fun p h => ⟨h, by rw [hp] at h; exact List.mem_append.1 h⟩) (hb.frame (· ∈ before))
  subst hp
  refine ⟨ds, gs, pa ++ pv, [], pa, pv, hW, hr _ _ _, ha (fun b => decide (b < W.heap.size)) seen, hv (fun b => decide (b < W.heap.size)) seen, ?_, fun _ => ⟨hok, ?_⟩⟩
  · exact World.keptBut_mono (fun p h => ⟨h.1, h.2.elim (fun h => .inr (.inl h)) fun h => .inr (.inr h)⟩) kept
  · obtain ⟨_, _, _, _, _, hz, hn⟩ := hW
    have hA := trodAll_append (ha (fun _ => true) fun _ _ => rfl) (hr 0 (fun _ => true) true)
    refine ⟨_, _, pa ++ pv, ⟨pa, pv, by simpa using hA, hv (fun _ => true) fun _ _ => rfl, rfl, fun b off h => ?_, hn⟩, fun p h _ => by simpa using h⟩
    rw [hb.frozen (low _ h)]
    exact hz b off h
end
end Go.Eng
end

section

end
