/-
  Texts of this claim, one behind the other: RlT RlU RlPl RlPlL SymU RlPlFin EngP RlPEnd. Each says its own conditions.
-/
import Derived.Test.YtlkbmjdgfbciaaaRlPM6
import Derived.Test.YtlkbmjdgfbciaaaRlPM4
import Derived.Deep.Slices
import Derived.ChangeArms
import Derived.WideShapes
import Derived.OpenShut
import Derived.Below
import Derived.ChangeSame
import Derived.WalkKit
import Derived.ProofKit

set_option linter.unusedVariables false
set_option linter.unusedSimpArgs false
set_option linter.unusedSectionVars false
section
namespace Go.Proofs.Ytlkbmjdgfbciaaa
open Go.Sym
set_option linter.unusedVariables false
set_option linter.unusedSimpArgs false
set_option maxRecDepth 100000
set_option maxHeartbeats 4000000
section
variable (i0 t0 : Int) (L : List EnR) (idx trm : Int) (E : List EnR) (ty ty2 : TypeId)
noncomputable def rhC (t v : Int) : CD := ⟨157, [(0, .ptr 0 0), (11, .int .u64 t), (15, .int .u64 v)], [], rtH i0 t0 L ty ty2, 2⟩
noncomputable def rpC (i : Nat) : CD := ⟨157, [(0, .ptr 0 0), (1, .int .u64 idx), (3, .lst entE E false), (18, .int .i64 (i : Int))], [], rtH i0 t0 L ty ty2, 2⟩
noncomputable def rpE : CD := ⟨157, [(1, .int .u64 idx), (3, .lst entE E false)], [], [(0, .cells [.int .u64 i0, .int .u64 t0, .rs 2 0 (putL0 i0 t0 L idx E).length (putL0 i0 t0 L idx E).length false 3] ty false), (2, .rows entE (putL0 i0 t0 L idx E) ty2 false)], 3⟩
theorem rh_loop (K : Nat) (t : Int) (hL : LogOK i0 t0 L) (hK : i0 + K ≤ i0 + (L.length : Int)) (N : Nat) : LpD.ok Try.prog N 2 (bodyOf Try.prog 56) ⟨9, [], rhC i0 t0 L ty ty2 t (i0 + K), .leaf (.exit 0) (rhC i0 t0 L ty ty2 t (hintI i0 t0 L t K))⟩ := by
  have hi := hL.hi
  have htop := hL.top
  have hlb := logB_ok hL
  refine LpD.ok_one (b := bodyAt Try.prog 56 9) rfl (loop_H htR1_ok noTab_ok (fuel := 3) (d := 5) (X := { k : Nat // k ≤ K ∧ hintI i0 t0 L t k = hintI i0 t0 L t K }) (fun x => rhC i0 t0 L ty ty2 t (i0 + x.1)) (fun x => x.1)
    (fun _ => .leaf (.exit 0) (rhC i0 t0 L ty ty2 t (hintI i0 t0 L t K))) (fun _ => []) (fun _ _ h => by cases h) ?_ ⟨K, Nat.le_refl _, rfl⟩)
  rintro ⟨k, hk, hI⟩
  dsimp only
  match k, hk, hI with
  | 0, hk, hI =>
    rw [hintI_0] at hI
    repeat' (conv => whnf
             first | (with_reducible first | exact True.intro | rfl | exact castL_self _ _ | refine iteB_n ?_ | refine iteB_ct ?_ | refine iteB_cf ?_ | refine iteB_bt ?_ | refine iteB_bf ?_ | refine iteB_tb ?_ | refine iteB_fb ?_) | ((with_reducible refine V.same_t ?_); exact rfl) | ((with_reducible refine andB_room ?_ ?_ ?_); (· kernel_rfl); (· (first | omega | (simp only [lens] <;> omega)))) | ((with_reducible first | refine andB_in ?_ ?_ | refine andB_d ?_ ?_ | refine andB_lt ?_ ?_ | refine andB_le ?_ ?_ | refine iteB_ltt ?_ ?_ | refine iteB_let ?_ ?_ | refine iteB_dt ?_ ?_); · (first | (with_reducible assumption) | (first | omega | (simp only [lens] <;> omega)))) | ((with_reducible first | refine iteB_ltf ?_ ?_ | refine iteB_lef ?_ ?_ | refine iteB_df ?_ ?_); · (first | (with_reducible assumption) | (first | omega | (simp only [lens] <;> omega)))) | ((with_reducible first | refine andB_i ?_ ?_ | refine iteB_t ?_ ?_); · (first | (with_reducible first | assumption | exact decide_eq_true rfl | exact sEq_self _) | ((with_reducible refine eqOK_i ?_); kernel_rfl))) | ((with_reducible refine iteB_f ?_ ?_); · (first | (with_reducible first | assumption | exact decide_eq_true rfl | exact sEq_self _) | ((with_reducible refine eqOK_i ?_); kernel_rfl))) | (with_reducible refine CD.wk_au ?_) | (with_reducible first | refine andB_in ?_ ?_ | refine andB_lt ?_ ?_ | refine andB_le ?_ ?_ | refine andB_d ?_ ?_ | refine andB_i ?_ ?_ | refine iteB_lts (fun hB => ?_) (fun hB => ?_) | refine iteB_les (fun hB => ?_) (fun hB => ?_) | refine iteB_ds (fun hB => ?_) (fun hB => ?_) | refine iteB_s (fun hB => ?_) (fun hB => ?_) | refine CD.wk_as ?_ | refine And.intro ?_ ?_))
    all_goals ((conv => whnf); (try dsimp only); (try simp only [Nat.succ_eq_add_one, Nat.le_eq, castL_self]); (try omega))
    all_goals (try (first | omega | (simp only [lens] <;> omega)))
    all_goals trace_state
  | 1, hk, hI =>
    rw [hintI_1] at hI
    repeat' (conv => whnf
             first | (with_reducible first | exact True.intro | rfl | exact castL_self _ _ | refine iteB_n ?_ | refine iteB_ct ?_ | refine iteB_cf ?_ | refine iteB_bt ?_ | refine iteB_bf ?_ | refine iteB_tb ?_ | refine iteB_fb ?_) | ((with_reducible refine V.same_t ?_); exact rfl) | ((with_reducible refine andB_room ?_ ?_ ?_); (· kernel_rfl); (· (first | omega | (simp only [lens] <;> omega)))) | ((with_reducible first | refine andB_in ?_ ?_ | refine andB_d ?_ ?_ | refine andB_lt ?_ ?_ | refine andB_le ?_ ?_ | refine iteB_ltt ?_ ?_ | refine iteB_let ?_ ?_ | refine iteB_dt ?_ ?_); · (first | (with_reducible assumption) | (first | omega | (simp only [lens] <;> omega)))) | ((with_reducible first | refine iteB_ltf ?_ ?_ | refine iteB_lef ?_ ?_ | refine iteB_df ?_ ?_); · (first | (with_reducible assumption) | (first | omega | (simp only [lens] <;> omega)))) | ((with_reducible first | refine andB_i ?_ ?_ | refine iteB_t ?_ ?_); · (first | (with_reducible first | assumption | exact decide_eq_true rfl | exact sEq_self _) | ((with_reducible refine eqOK_i ?_); kernel_rfl))) | ((with_reducible refine iteB_f ?_ ?_); · (first | (with_reducible first | assumption | exact decide_eq_true rfl | exact sEq_self _) | ((with_reducible refine eqOK_i ?_); kernel_rfl))) | (with_reducible refine CD.wk_au ?_) | (with_reducible first | refine andB_in ?_ ?_ | refine andB_lt ?_ ?_ | refine andB_le ?_ ?_ | refine andB_d ?_ ?_ | refine andB_i ?_ ?_ | refine iteB_lts (fun hB => ?_) (fun hB => ?_) | refine iteB_les (fun hB => ?_) (fun hB => ?_) | refine iteB_ds (fun hB => ?_) (fun hB => ?_) | refine iteB_s (fun hB => ?_) (fun hB => ?_) | refine CD.wk_as ?_ | refine And.intro ?_ ?_))
    all_goals ((conv => whnf); (try dsimp only); (try simp only [Nat.succ_eq_add_one, Nat.le_eq, castL_self]); (try omega))
    all_goals (try (first | omega | (simp only [lens] <;> omega)))
    all_goals trace_state
  | k + 2, hk, hI =>
    rw [hintI_2] at hI
    have e1 : (i0 + ((k + 2 : Nat) : Int) - 1) % 18446744073709551616 = i0 + ((k + 1 : Nat) : Int) := by omega
    by_cases hc : termV i0 t0 L (i0 + ((k + 1 : Nat) : Int)) = t
    · rw [if_pos hc] at hI
      have hc' : @Eq Int (termV i0 t0 L ((i0 + ((k + 2 : Nat) : Int) - 1) % 18446744073709551616)) t := by rw [e1]; exact hc
      repeat' (conv => whnf
               first | (with_reducible first | exact True.intro | rfl | exact castL_self _ _ | refine iteB_n ?_ | refine iteB_ct ?_ | refine iteB_cf ?_ | refine iteB_bt ?_ | refine iteB_bf ?_ | refine iteB_tb ?_ | refine iteB_fb ?_) | ((with_reducible refine V.same_t ?_); exact rfl) | ((with_reducible refine andB_room ?_ ?_ ?_); (· kernel_rfl); (· (first | omega | (simp only [lens] <;> omega)))) | ((with_reducible first | refine andB_in ?_ ?_ | refine andB_d ?_ ?_ | refine andB_lt ?_ ?_ | refine andB_le ?_ ?_ | refine iteB_ltt ?_ ?_ | refine iteB_let ?_ ?_ | refine iteB_dt ?_ ?_); · (first | (with_reducible assumption) | (first | omega | (simp only [lens] <;> omega)))) | ((with_reducible first | refine iteB_ltf ?_ ?_ | refine iteB_lef ?_ ?_ | refine iteB_df ?_ ?_); · (first | (with_reducible assumption) | (first | omega | (simp only [lens] <;> omega)))) | ((with_reducible first | refine andB_i ?_ ?_ | refine iteB_t ?_ ?_); · (first | (with_reducible first | assumption | exact decide_eq_true rfl | exact sEq_self _) | ((with_reducible refine eqOK_i ?_); kernel_rfl) | (exact hlb))) | ((with_reducible refine iteB_f ?_ ?_); · (first | (with_reducible first | assumption | exact decide_eq_true rfl | exact sEq_self _) | ((with_reducible refine eqOK_i ?_); kernel_rfl) | (exact hlb))) | (refine ⟨⟨k + 1, by omega, hI⟩, ?_, rfl, ?_⟩) | (with_reducible refine CD.wk_au ?_) | (with_reducible first | refine andB_in ?_ ?_ | refine andB_lt ?_ ?_ | refine andB_le ?_ ?_ | refine andB_d ?_ ?_ | refine andB_i ?_ ?_ | refine iteB_lts (fun hB => ?_) (fun hB => ?_) | refine iteB_les (fun hB => ?_) (fun hB => ?_) | refine iteB_ds (fun hB => ?_) (fun hB => ?_) | refine iteB_s (fun hB => ?_) (fun hB => ?_) | refine CD.wk_as ?_ | refine And.intro ?_ ?_))
      all_goals ((conv => whnf); (try dsimp only); (try simp only [Nat.succ_eq_add_one, Nat.le_eq, castL_self]); (try omega))
      all_goals (try (first | omega | (simp only [lens] <;> omega)))
      all_goals trace_state
    · rw [if_neg hc] at hI
      have hc' : ¬ @Eq Int (termV i0 t0 L ((i0 + ((k + 2 : Nat) : Int) - 1) % 18446744073709551616)) t := by rw [e1]; exact hc
      repeat' (conv => whnf
               first | (with_reducible first | exact True.intro | rfl | exact castL_self _ _ | refine iteB_n ?_ | refine iteB_ct ?_ | refine iteB_cf ?_ | refine iteB_bt ?_ | refine iteB_bf ?_ | refine iteB_tb ?_ | refine iteB_fb ?_) | ((with_reducible refine V.same_t ?_); exact rfl) | ((with_reducible refine andB_room ?_ ?_ ?_); (· kernel_rfl); (· (first | omega | (simp only [lens] <;> omega)))) | ((with_reducible first | refine andB_in ?_ ?_ | refine andB_d ?_ ?_ | refine andB_lt ?_ ?_ | refine andB_le ?_ ?_ | refine iteB_ltt ?_ ?_ | refine iteB_let ?_ ?_ | refine iteB_dt ?_ ?_); · (first | (with_reducible assumption) | (first | omega | (simp only [lens] <;> omega)))) | ((with_reducible first | refine iteB_ltf ?_ ?_ | refine iteB_lef ?_ ?_ | refine iteB_df ?_ ?_); · (first | (with_reducible assumption) | (first | omega | (simp only [lens] <;> omega)))) | ((with_reducible first | refine andB_i ?_ ?_ | refine iteB_t ?_ ?_); · (first | (with_reducible first | assumption | exact decide_eq_true rfl | exact sEq_self _) | ((with_reducible refine eqOK_i ?_); kernel_rfl) | (exact hlb))) | ((with_reducible refine iteB_f ?_ ?_); · (first | (with_reducible first | assumption | exact decide_eq_true rfl | exact sEq_self _) | ((with_reducible refine eqOK_i ?_); kernel_rfl) | (exact hlb))) | (with_reducible refine CD.wk_au ?_) | (with_reducible first | refine andB_in ?_ ?_ | refine andB_lt ?_ ?_ | refine andB_le ?_ ?_ | refine andB_d ?_ ?_ | refine andB_i ?_ ?_ | refine iteB_lts (fun hB => ?_) (fun hB => ?_) | refine iteB_les (fun hB => ?_) (fun hB => ?_) | refine iteB_ds (fun hB => ?_) (fun hB => ?_) | refine iteB_s (fun hB => ?_) (fun hB => ?_) | refine CD.wk_as ?_ | refine And.intro ?_ ?_))
      all_goals ((conv => whnf); (try dsimp only); (try simp only [Nat.succ_eq_add_one, Nat.le_eq, castL_self]); (try omega))
      all_goals (try (first | omega | (simp only [lens] <;> omega)))
      all_goals trace_state
theorem rput_full (hL : LogOK i0 t0 L) (hx : 0 ≤ idx ∧ idx < 18446744073709551616) (hE : E.length ≤ 1000000) (hEr : ∀ j, j < E.length → 0 ≤ (rowE E j).2.1 ∧ (rowE E j).2.1 < 18446744073709551616) :
    HeapAt Try.prog 1 56 [.ptr 0 0, .int .u64 idx, .int .u64 trm, .lst entE E false] [refO i0 t0 L ty, rowO L ty2]
      (.tup [.int .u64 (pLast i0 t0 L idx trm E), .int .u64 (pHint i0 t0 L idx trm E), .bool (pOk i0 t0 L idx trm E)]) (rtH i0 t0 (pLog i0 t0 L idx trm E) ty ty2) 2 := by
  have hi := hL.hi
  have ht := hL.ht
  have hl := hL.hl
  have htop := hL.top
  have hlb := logB_ok hL
  have hEl : (List.length (α := EnR) E : Int) = ((List.length (α := rowDen entE) E : Nat) : Int) := rfl
  cases hf : folL idx trm E with
  | false =>
    obtain ⟨e1, e2, e3, e4⟩ := put_fol (i0 := i0) (t0 := t0) (L := L) hf
    rw [e1, e2, e3, e4]
    refine heap_of_H htR1_ok tabR3_ok (fuel := 3) (d := 6) (N := 2) rfl rfl [] (fun _ _ h => by cases h) ?_
    repeat' (conv => whnf
             first | (with_reducible first | exact True.intro | rfl | exact castL_self _ _ | refine iteB_n ?_ | refine iteB_ct ?_ | refine iteB_cf ?_ | refine iteB_bt ?_ | refine iteB_bf ?_ | refine iteB_tb ?_ | refine iteB_fb ?_) | ((with_reducible refine V.same_t ?_); exact rfl) | ((with_reducible refine andB_room ?_ ?_ ?_); (· kernel_rfl); (· (first | omega | (simp only [lens] <;> omega)))) | ((with_reducible first | refine andB_in ?_ ?_ | refine andB_d ?_ ?_ | refine andB_lt ?_ ?_ | refine andB_le ?_ ?_ | refine iteB_ltt ?_ ?_ | refine iteB_let ?_ ?_ | refine iteB_dt ?_ ?_); · (first | (with_reducible assumption) | (first | omega | (simp only [lens] <;> omega)))) | ((with_reducible first | refine iteB_ltf ?_ ?_ | refine iteB_lef ?_ ?_ | refine iteB_df ?_ ?_); · (first | (with_reducible assumption) | (first | omega | (simp only [lens] <;> omega)))) | ((with_reducible first | refine andB_i ?_ ?_ | refine iteB_t ?_ ?_); · (first | (with_reducible first | assumption | exact decide_eq_true rfl | exact sEq_self _) | ((with_reducible refine eqOK_i ?_); kernel_rfl) | (exact hf))) | ((with_reducible refine iteB_f ?_ ?_); · (first | (with_reducible first | assumption | exact decide_eq_true rfl | exact sEq_self _) | ((with_reducible refine eqOK_i ?_); kernel_rfl) | (exact hf))) | (with_reducible refine CD.wk_au ?_) | (with_reducible first | refine andB_in ?_ ?_ | refine andB_lt ?_ ?_ | refine andB_le ?_ ?_ | refine andB_d ?_ ?_ | refine andB_i ?_ ?_ | refine iteB_lts (fun hB => ?_) (fun hB => ?_) | refine iteB_les (fun hB => ?_) (fun hB => ?_) | refine iteB_ds (fun hB => ?_) (fun hB => ?_) | refine iteB_s (fun hB => ?_) (fun hB => ?_) | refine CD.wk_as ?_ | refine And.intro ?_ ?_))
    all_goals ((conv => whnf); (try dsimp only); (try simp only [Nat.succ_eq_add_one, Nat.le_eq, castL_self]); (try omega))
    all_goals (try (first | omega | (simp only [lens] <;> omega)))
    all_goals trace_state
  | true =>
    by_cases hp : putAt i0 t0 L idx trm E
    · obtain ⟨e1, e2, e3, e4⟩ := put_yes hp
      rw [e1, e2, e3, e4]
      have hin := putAt_in hp hL hx.1
      have hrun := fol_run hf (by omega)
      have hjin := fun hJ => putJ_in hp hL hx.1 hJ
      have hrowE : ∀ j, j < E.length → @Eq Int (Sym.rowAt entE E (Int.toNat (j : Int))).2.1 (idx + (j : Int) + 1) := fun j hj => hrun j hj
      have hnm := fun j hj => misB_no (firstP_no (misB i0 t0 L E) E.length j hj)
      rcases Nat.lt_or_ge (putJ i0 t0 L E) E.length with hJ | hJ
      · obtain ⟨j1, j2⟩ := hjin hJ
        obtain ⟨J, hJe⟩ : ∃ J, putJ i0 t0 L E = J := ⟨_, rfl⟩
        have hyes := misB_yes (firstP_yes _ _ hJ)
        have hnm : ∀ j, j < J → _ := fun j hj => hnm j (by rw [← hJe] at hj; exact hj)
        rw [show firstP (misB i0 t0 L E) E.length = putJ i0 t0 L E from rfl, hJe] at hyes
        have eP : putL0 i0 t0 L idx E = L.take (idx + (J : Nat) - i0).toNat ++ E.drop J := by unfold putL0; rw [if_pos hJ, hJe]
        rw [hJe] at hJ j1 j2
        obtain ⟨K, hK⟩ : ∃ K : Nat, (K : Int) = idx + J - i0 := ⟨(idx + J - i0).toNat, by omega⟩
        have hK2 : (idx + (J : Nat) - i0).toNat = K := by omega
        rw [hK2] at eP
        have hPl : (putL0 i0 t0 L idx E).length = K + (E.length - J) := by rw [eP, List.length_append, List.length_take, List.length_drop]; omega
        refine heap_of_H htR1_ok tabR3_ok (fuel := 3) (d := 6) (N := 2) rfl rfl [⟨15, [], rpC i0 t0 L idx E ty ty2 0, .leaf (.exit 2) (rpE i0 t0 L idx E ty ty2)⟩] (fun N l hl => ?_) ?_
        · rw [List.mem_singleton.1 hl]
          refine LpD.ok_one (b := bodyAt Try.prog 56 15) rfl (loop_H htR1_ok tabR3_ok (fuel := 3) (d := 5) (X := { i : Nat // i ≤ J }) (fun x => rpC i0 t0 L idx E ty ty2 x.1) (fun x => J - x.1)
            (fun _ => .leaf (.exit 2) (rpE i0 t0 L idx E ty ty2)) (fun _ => []) (fun _ _ h => by cases h) ?_ ⟨0, Nat.zero_le _⟩)
          rintro ⟨i, hi2⟩
          dsimp only
          have hlt' : i < E.length := Nat.lt_of_le_of_lt hi2 hJ
          have rE := hrowE i hlt'
          have hEr := hEr i hlt'
          obtain ⟨w, ew⟩ : ∃ w : Int, @Eq Int w (Sym.rowAt entE E (Int.toNat (i : Int))).2.1 := ⟨_, rfl⟩
          have ew0 : @Eq Int (Sym.rowAt entE E i).2.1 w := ew.symm
          rcases Nat.lt_or_ge i J with hlt | hge
          · have ha := hnm i hlt
            rw [show (rowE E i).2.1 = w from ew0] at ha
            rcases ha with ha | ⟨ha1, ha2⟩
            · repeat' (conv => whnf
                       first | (with_reducible first | exact True.intro | rfl | exact castL_self _ _ | refine iteB_n ?_ | refine iteB_ct ?_ | refine iteB_cf ?_ | refine iteB_bt ?_ | refine iteB_bf ?_ | refine iteB_tb ?_ | refine iteB_fb ?_) | ((with_reducible refine V.same_t ?_); exact rfl) | ((with_reducible refine andB_room ?_ ?_ ?_); (· kernel_rfl); (· (first | omega | (simp only [lens] <;> omega)))) | ((with_reducible first | refine andB_in ?_ ?_ | refine andB_d ?_ ?_ | refine andB_lt ?_ ?_ | refine andB_le ?_ ?_ | refine iteB_ltt ?_ ?_ | refine iteB_let ?_ ?_ | refine iteB_dt ?_ ?_); · (first | (with_reducible assumption) | (first | omega | (simp only [lens] <;> omega)))) | ((with_reducible first | refine iteB_ltf ?_ ?_ | refine iteB_lef ?_ ?_ | refine iteB_df ?_ ?_); · (first | (with_reducible assumption) | (first | omega | (simp only [lens] <;> omega)))) | ((with_reducible first | refine andB_i ?_ ?_ | refine iteB_t ?_ ?_); · (first | (with_reducible first | assumption | exact decide_eq_true rfl | exact sEq_self _) | ((with_reducible refine eqOK_i ?_); kernel_rfl) | (exact hlb))) | ((with_reducible refine iteB_f ?_ ?_); · (first | (with_reducible first | assumption | exact decide_eq_true rfl | exact sEq_self _) | ((with_reducible refine eqOK_i ?_); kernel_rfl) | (exact hlb))) | (refine ⟨⟨i + 1, hlt⟩, ?_, rfl, ?_⟩) | (with_reducible refine CD.wk_au ?_) | (with_reducible first | refine andB_in ?_ ?_ | refine andB_lt ?_ ?_ | refine andB_le ?_ ?_ | refine andB_d ?_ ?_ | refine andB_i ?_ ?_ | refine iteB_lts (fun hB => ?_) (fun hB => ?_) | refine iteB_les (fun hB => ?_) (fun hB => ?_) | refine iteB_ds (fun hB => ?_) (fun hB => ?_) | refine iteB_s (fun hB => ?_) (fun hB => ?_) | refine CD.wk_as ?_ | refine And.intro ?_ ?_))
              all_goals ((conv => whnf); (try dsimp only); (try simp only [Nat.succ_eq_add_one, Nat.le_eq, castL_self]); (try omega))
              all_goals (try (first | omega | (simp only [lens] <;> omega)))
              all_goals trace_state
            · have hb1 : termI i0 t0 L (Sym.rowAt entE E (Int.toNat (i : Int))).2.1 = true := by rw [← ew]; exact ha1
              have hb2 : @Eq Int (termV i0 t0 L (Sym.rowAt entE E (Int.toNat (i : Int))).2.1) (Sym.rowAt entE E (Int.toNat (i : Int))).1 := by rw [← ew]; exact ha2
              repeat' (conv => whnf
                       first | (with_reducible first | exact True.intro | rfl | exact castL_self _ _ | refine iteB_n ?_ | refine iteB_ct ?_ | refine iteB_cf ?_ | refine iteB_bt ?_ | refine iteB_bf ?_ | refine iteB_tb ?_ | refine iteB_fb ?_) | ((with_reducible refine V.same_t ?_); exact rfl) | ((with_reducible refine andB_room ?_ ?_ ?_); (· kernel_rfl); (· (first | omega | (simp only [lens] <;> omega)))) | ((with_reducible first | refine andB_in ?_ ?_ | refine andB_d ?_ ?_ | refine andB_lt ?_ ?_ | refine andB_le ?_ ?_ | refine iteB_ltt ?_ ?_ | refine iteB_let ?_ ?_ | refine iteB_dt ?_ ?_); · (first | (with_reducible assumption) | (first | omega | (simp only [lens] <;> omega)))) | ((with_reducible first | refine iteB_ltf ?_ ?_ | refine iteB_lef ?_ ?_ | refine iteB_df ?_ ?_); · (first | (with_reducible assumption) | (first | omega | (simp only [lens] <;> omega)))) | ((with_reducible first | refine andB_i ?_ ?_ | refine iteB_t ?_ ?_); · (first | (with_reducible first | assumption | exact decide_eq_true rfl | exact sEq_self _) | ((with_reducible refine eqOK_i ?_); kernel_rfl) | (first | exact hlb | exact hb1))) | ((with_reducible refine iteB_f ?_ ?_); · (first | (with_reducible first | assumption | exact decide_eq_true rfl | exact sEq_self _) | ((with_reducible refine eqOK_i ?_); kernel_rfl) | (first | exact hlb | exact hb1))) | (refine ⟨⟨i + 1, hlt⟩, ?_, rfl, ?_⟩) | (with_reducible refine CD.wk_au ?_) | (with_reducible first | refine andB_in ?_ ?_ | refine andB_lt ?_ ?_ | refine andB_le ?_ ?_ | refine andB_d ?_ ?_ | refine andB_i ?_ ?_ | refine iteB_lts (fun hB => ?_) (fun hB => ?_) | refine iteB_les (fun hB => ?_) (fun hB => ?_) | refine iteB_ds (fun hB => ?_) (fun hB => ?_) | refine iteB_s (fun hB => ?_) (fun hB => ?_) | refine CD.wk_as ?_ | refine And.intro ?_ ?_))
              all_goals ((conv => whnf); (try dsimp only); (try simp only [Nat.succ_eq_add_one, Nat.le_eq, castL_self]); (try omega))
              all_goals (try (first | omega | (simp only [lens] <;> omega)))
              all_goals trace_state
          · have he : i = J := Nat.le_antisymm hi2 hge
            subst he
            rw [show (rowE E i).2.1 = w from ew0] at hyes
            obtain ⟨y1, y2⟩ := hyes
            have hkp : Int.toNat ((((Sym.rowAt entE E (Int.toNat (i : Int))).2.1 - i0) % 18446744073709551616 - 1) % 18446744073709551616) = K := by rw [← ew]; omega
            cases hb1 : termI i0 t0 L (Sym.rowAt entE E (Int.toNat (i : Int))).2.1 with
            | true =>
              have hb2 : ¬ @Eq Int (termV i0 t0 L (Sym.rowAt entE E (Int.toNat (i : Int))).2.1) (Sym.rowAt entE E (Int.toNat (i : Int))).1 := by
                rw [← ew] at hb1 ⊢
                exact fun g => y2 ⟨hb1, g⟩
              repeat' (conv => whnf
                       first | (with_reducible first | exact True.intro | rfl | exact castL_self _ _ | refine iteB_n ?_ | refine iteB_ct ?_ | refine iteB_cf ?_ | refine iteB_bt ?_ | refine iteB_bf ?_ | refine iteB_tb ?_ | refine iteB_fb ?_) | ((with_reducible refine V.same_t ?_); exact rfl) | ((with_reducible refine andB_room ?_ ?_ ?_); (· kernel_rfl); (· (first | omega | (simp only [lens] <;> omega)))) | ((with_reducible first | refine andB_in ?_ ?_ | refine andB_d ?_ ?_ | refine andB_lt ?_ ?_ | refine andB_le ?_ ?_ | refine iteB_ltt ?_ ?_ | refine iteB_let ?_ ?_ | refine iteB_dt ?_ ?_); · (first | (with_reducible assumption) | (first | omega | (simp only [lens] <;> omega)))) | ((with_reducible first | refine iteB_ltf ?_ ?_ | refine iteB_lef ?_ ?_ | refine iteB_df ?_ ?_); · (first | (with_reducible assumption) | (first | omega | (simp only [lens] <;> omega)))) | ((with_reducible first | refine andB_i ?_ ?_ | refine iteB_t ?_ ?_); · (first | (with_reducible first | assumption | exact decide_eq_true rfl | exact sEq_self _) | ((with_reducible refine eqOK_i ?_); kernel_rfl) | (first | exact hlb | exact hb1))) | ((with_reducible refine iteB_f ?_ ?_); · (first | (with_reducible first | assumption | exact decide_eq_true rfl | exact sEq_self _) | ((with_reducible refine eqOK_i ?_); kernel_rfl) | (first | exact hlb | exact hb1))) | (with_reducible refine CD.wk_au ?_) | (with_reducible first | refine andB_in ?_ ?_ | refine andB_lt ?_ ?_ | refine andB_le ?_ ?_ | refine andB_d ?_ ?_ | refine andB_i ?_ ?_ | refine iteB_lts (fun hB => ?_) (fun hB => ?_) | refine iteB_les (fun hB => ?_) (fun hB => ?_) | refine iteB_ds (fun hB => ?_) (fun hB => ?_) | refine iteB_s (fun hB => ?_) (fun hB => ?_) | refine CD.wk_as ?_ | refine And.intro ?_ ?_))
              all_goals ((conv => whnf); (try dsimp only); (try simp only [Nat.succ_eq_add_one, Nat.le_eq, castL_self]); (try omega))
              all_goals (try (first | omega | (simp only [lens] <;> omega)))
              all_goals first
                | (rw [seg_all _ rfl, hkp, eP]; show seg L 0 K ++ _ = _; unfold seg; rw [Nat.zero_add, List.drop_zero]; rfl)
                | trace_state
            | false =>
              repeat' (conv => whnf
                       first | (with_reducible first | exact True.intro | rfl | exact castL_self _ _ | refine iteB_n ?_ | refine iteB_ct ?_ | refine iteB_cf ?_ | refine iteB_bt ?_ | refine iteB_bf ?_ | refine iteB_tb ?_ | refine iteB_fb ?_) | ((with_reducible refine V.same_t ?_); exact rfl) | ((with_reducible refine andB_room ?_ ?_ ?_); (· kernel_rfl); (· (first | omega | (simp only [lens] <;> omega)))) | ((with_reducible first | refine andB_in ?_ ?_ | refine andB_d ?_ ?_ | refine andB_lt ?_ ?_ | refine andB_le ?_ ?_ | refine iteB_ltt ?_ ?_ | refine iteB_let ?_ ?_ | refine iteB_dt ?_ ?_); · (first | (with_reducible assumption) | (first | omega | (simp only [lens] <;> omega)))) | ((with_reducible first | refine iteB_ltf ?_ ?_ | refine iteB_lef ?_ ?_ | refine iteB_df ?_ ?_); · (first | (with_reducible assumption) | (first | omega | (simp only [lens] <;> omega)))) | ((with_reducible first | refine andB_i ?_ ?_ | refine iteB_t ?_ ?_); · (first | (with_reducible first | assumption | exact decide_eq_true rfl | exact sEq_self _) | ((with_reducible refine eqOK_i ?_); kernel_rfl) | (first | exact hlb | exact hb1))) | ((with_reducible refine iteB_f ?_ ?_); · (first | (with_reducible first | assumption | exact decide_eq_true rfl | exact sEq_self _) | ((with_reducible refine eqOK_i ?_); kernel_rfl) | (first | exact hlb | exact hb1))) | (with_reducible refine CD.wk_au ?_) | (with_reducible first | refine andB_in ?_ ?_ | refine andB_lt ?_ ?_ | refine andB_le ?_ ?_ | refine andB_d ?_ ?_ | refine andB_i ?_ ?_ | refine iteB_lts (fun hB => ?_) (fun hB => ?_) | refine iteB_les (fun hB => ?_) (fun hB => ?_) | refine iteB_ds (fun hB => ?_) (fun hB => ?_) | refine iteB_s (fun hB => ?_) (fun hB => ?_) | refine CD.wk_as ?_ | refine And.intro ?_ ?_))
              all_goals ((conv => whnf); (try dsimp only); (try simp only [Nat.succ_eq_add_one, Nat.le_eq, castL_self]); (try omega))
              all_goals (try (first | omega | (simp only [lens] <;> omega)))
              all_goals first
                | (rw [seg_all _ rfl, hkp, eP]; show seg L 0 K ++ _ = _; unfold seg; rw [Nat.zero_add, List.drop_zero]; rfl)
                | trace_state
        · rcases hp.2 with ha | ⟨ha1, ha2⟩
          all_goals
            repeat' (conv => whnf
                     first | (with_reducible first | exact True.intro | rfl | exact castL_self _ _ | refine iteB_n ?_ | refine iteB_ct ?_ | refine iteB_cf ?_ | refine iteB_bt ?_ | refine iteB_bf ?_ | refine iteB_tb ?_ | refine iteB_fb ?_) | ((with_reducible refine V.same_t ?_); exact rfl) | ((with_reducible refine andB_room ?_ ?_ ?_); (· kernel_rfl); (· (first | omega | (simp only [lens] <;> omega)))) | ((with_reducible first | refine andB_in ?_ ?_ | refine andB_d ?_ ?_ | refine andB_lt ?_ ?_ | refine andB_le ?_ ?_ | refine iteB_ltt ?_ ?_ | refine iteB_let ?_ ?_ | refine iteB_dt ?_ ?_); · (first | (with_reducible assumption) | (first | omega | (simp only [lens] <;> omega)))) | ((with_reducible first | refine iteB_ltf ?_ ?_ | refine iteB_lef ?_ ?_ | refine iteB_df ?_ ?_); · (first | (with_reducible assumption) | (first | omega | (simp only [lens] <;> omega)))) | ((with_reducible first | refine andB_i ?_ ?_ | refine iteB_t ?_ ?_); · (first | (with_reducible first | assumption | exact decide_eq_true rfl | exact sEq_self _) | ((with_reducible refine eqOK_i ?_); kernel_rfl) | (first | exact hf | exact hlb | assumption))) | ((with_reducible refine iteB_f ?_ ?_); · (first | (with_reducible first | assumption | exact decide_eq_true rfl | exact sEq_self _) | ((with_reducible refine eqOK_i ?_); kernel_rfl) | (first | exact hf | exact hlb | assumption))) | (with_reducible refine CD.wk_au ?_) | (with_reducible first | refine andB_in ?_ ?_ | refine andB_lt ?_ ?_ | refine andB_le ?_ ?_ | refine andB_d ?_ ?_ | refine andB_i ?_ ?_ | refine iteB_lts (fun hB => ?_) (fun hB => ?_) | refine iteB_les (fun hB => ?_) (fun hB => ?_) | refine iteB_ds (fun hB => ?_) (fun hB => ?_) | refine iteB_s (fun hB => ?_) (fun hB => ?_) | refine CD.wk_as ?_ | refine And.intro ?_ ?_))
            all_goals ((conv => whnf); (try dsimp only); (try simp only [Nat.succ_eq_add_one, Nat.le_eq, castL_self]); (try omega))
            all_goals (try (first | omega | (simp only [lens] <;> omega)))
          all_goals first
            | omega
            | rfl
            | exact (lastP_0 (by omega)).symm
            | (rw [lastP_1 (by omega), show (((List.length (α := EnR) E : Nat) : Int) - 1).toNat = List.length (α := EnR) E - 1 by omega]; done)
            | (rw [lastP_1 (by omega), show (((List.length (α := EnR) E : Nat) : Int) - 1).toNat = List.length (α := EnR) E - 1 by omega]; rfl)
            | trace_state
      · have eL : putL0 i0 t0 L idx E = L := if_neg (by omega)
        rw [eL]
        refine heap_of_H htR1_ok tabR3_ok (fuel := 3) (d := 6) (N := 2) rfl rfl [⟨15, [], rpC i0 t0 L idx E ty ty2 0, .leaf (.exit 2) (rpC i0 t0 L idx E ty ty2 E.length)⟩] (fun N l hl => ?_) ?_
        · rw [List.mem_singleton.1 hl]
          refine LpD.ok_one (b := bodyAt Try.prog 56 15) rfl (loop_H htR1_ok tabR3_ok (fuel := 3) (d := 5) (X := { i : Nat // i ≤ E.length }) (fun x => rpC i0 t0 L idx E ty ty2 x.1) (fun x => E.length - x.1)
            (fun _ => .leaf (.exit 2) (rpC i0 t0 L idx E ty ty2 E.length)) (fun _ => []) (fun _ _ h => by cases h) ?_ ⟨0, Nat.zero_le _⟩)
          rintro ⟨i, hi2⟩
          dsimp only
          rcases Nat.lt_or_ge i E.length with hlt | hge
          · have rE := hrowE i hlt
            have hEr := hEr i hlt
            obtain ⟨w, ew⟩ : ∃ w : Int, @Eq Int w (Sym.rowAt entE E (Int.toNat (i : Int))).2.1 := ⟨_, rfl⟩
            have ew0 : @Eq Int (Sym.rowAt entE E i).2.1 w := ew.symm
            have ha := hnm i (Nat.lt_of_lt_of_le hlt hJ)
            rw [show (rowE E i).2.1 = w from ew0] at ha
            rcases ha with ha | ⟨ha1, ha2⟩
            · repeat' (conv => whnf
                       first | (with_reducible first | exact True.intro | rfl | exact castL_self _ _ | refine iteB_n ?_ | refine iteB_ct ?_ | refine iteB_cf ?_ | refine iteB_bt ?_ | refine iteB_bf ?_ | refine iteB_tb ?_ | refine iteB_fb ?_) | ((with_reducible refine V.same_t ?_); exact rfl) | ((with_reducible refine andB_room ?_ ?_ ?_); (· kernel_rfl); (· (first | omega | (simp only [lens] <;> omega)))) | ((with_reducible first | refine andB_in ?_ ?_ | refine andB_d ?_ ?_ | refine andB_lt ?_ ?_ | refine andB_le ?_ ?_ | refine iteB_ltt ?_ ?_ | refine iteB_let ?_ ?_ | refine iteB_dt ?_ ?_); · (first | (with_reducible assumption) | (first | omega | (simp only [lens] <;> omega)))) | ((with_reducible first | refine iteB_ltf ?_ ?_ | refine iteB_lef ?_ ?_ | refine iteB_df ?_ ?_); · (first | (with_reducible assumption) | (first | omega | (simp only [lens] <;> omega)))) | ((with_reducible first | refine andB_i ?_ ?_ | refine iteB_t ?_ ?_); · (first | (with_reducible first | assumption | exact decide_eq_true rfl | exact sEq_self _) | ((with_reducible refine eqOK_i ?_); kernel_rfl) | (exact hlb))) | ((with_reducible refine iteB_f ?_ ?_); · (first | (with_reducible first | assumption | exact decide_eq_true rfl | exact sEq_self _) | ((with_reducible refine eqOK_i ?_); kernel_rfl) | (exact hlb))) | (refine ⟨⟨i + 1, hlt⟩, ?_, rfl, ?_⟩) | (with_reducible refine CD.wk_au ?_) | (with_reducible first | refine andB_in ?_ ?_ | refine andB_lt ?_ ?_ | refine andB_le ?_ ?_ | refine andB_d ?_ ?_ | refine andB_i ?_ ?_ | refine iteB_lts (fun hB => ?_) (fun hB => ?_) | refine iteB_les (fun hB => ?_) (fun hB => ?_) | refine iteB_ds (fun hB => ?_) (fun hB => ?_) | refine iteB_s (fun hB => ?_) (fun hB => ?_) | refine CD.wk_as ?_ | refine And.intro ?_ ?_))
              all_goals ((conv => whnf); (try dsimp only); (try simp only [Nat.succ_eq_add_one, Nat.le_eq, castL_self]); (try omega))
              all_goals (try (first | omega | (simp only [lens] <;> omega)))
              all_goals trace_state
            · have hb1 : termI i0 t0 L (Sym.rowAt entE E (Int.toNat (i : Int))).2.1 = true := by rw [← ew]; exact ha1
              have hb2 : @Eq Int (termV i0 t0 L (Sym.rowAt entE E (Int.toNat (i : Int))).2.1) (Sym.rowAt entE E (Int.toNat (i : Int))).1 := by rw [← ew]; exact ha2
              repeat' (conv => whnf
                       first | (with_reducible first | exact True.intro | rfl | exact castL_self _ _ | refine iteB_n ?_ | refine iteB_ct ?_ | refine iteB_cf ?_ | refine iteB_bt ?_ | refine iteB_bf ?_ | refine iteB_tb ?_ | refine iteB_fb ?_) | ((with_reducible refine V.same_t ?_); exact rfl) | ((with_reducible refine andB_room ?_ ?_ ?_); (· kernel_rfl); (· (first | omega | (simp only [lens] <;> omega)))) | ((with_reducible first | refine andB_in ?_ ?_ | refine andB_d ?_ ?_ | refine andB_lt ?_ ?_ | refine andB_le ?_ ?_ | refine iteB_ltt ?_ ?_ | refine iteB_let ?_ ?_ | refine iteB_dt ?_ ?_); · (first | (with_reducible assumption) | (first | omega | (simp only [lens] <;> omega)))) | ((with_reducible first | refine iteB_ltf ?_ ?_ | refine iteB_lef ?_ ?_ | refine iteB_df ?_ ?_); · (first | (with_reducible assumption) | (first | omega | (simp only [lens] <;> omega)))) | ((with_reducible first | refine andB_i ?_ ?_ | refine iteB_t ?_ ?_); · (first | (with_reducible first | assumption | exact decide_eq_true rfl | exact sEq_self _) | ((with_reducible refine eqOK_i ?_); kernel_rfl) | (first | exact hlb | exact hb1))) | ((with_reducible refine iteB_f ?_ ?_); · (first | (with_reducible first | assumption | exact decide_eq_true rfl | exact sEq_self _) | ((with_reducible refine eqOK_i ?_); kernel_rfl) | (first | exact hlb | exact hb1))) | (refine ⟨⟨i + 1, hlt⟩, ?_, rfl, ?_⟩) | (with_reducible refine CD.wk_au ?_) | (with_reducible first | refine andB_in ?_ ?_ | refine andB_lt ?_ ?_ | refine andB_le ?_ ?_ | refine andB_d ?_ ?_ | refine andB_i ?_ ?_ | refine iteB_lts (fun hB => ?_) (fun hB => ?_) | refine iteB_les (fun hB => ?_) (fun hB => ?_) | refine iteB_ds (fun hB => ?_) (fun hB => ?_) | refine iteB_s (fun hB => ?_) (fun hB => ?_) | refine CD.wk_as ?_ | refine And.intro ?_ ?_))
              all_goals ((conv => whnf); (try dsimp only); (try simp only [Nat.succ_eq_add_one, Nat.le_eq, castL_self]); (try omega))
              all_goals (try (first | omega | (simp only [lens] <;> omega)))
              all_goals trace_state
          · have he : i = E.length := Nat.le_antisymm hi2 hge
            subst he
            repeat' (conv => whnf
                     first | (with_reducible first | exact True.intro | rfl | exact castL_self _ _ | refine iteB_n ?_ | refine iteB_ct ?_ | refine iteB_cf ?_ | refine iteB_bt ?_ | refine iteB_bf ?_ | refine iteB_tb ?_ | refine iteB_fb ?_) | ((with_reducible refine V.same_t ?_); exact rfl) | ((with_reducible refine andB_room ?_ ?_ ?_); (· kernel_rfl); (· (first | omega | (simp only [lens] <;> omega)))) | ((with_reducible first | refine andB_in ?_ ?_ | refine andB_d ?_ ?_ | refine andB_lt ?_ ?_ | refine andB_le ?_ ?_ | refine iteB_ltt ?_ ?_ | refine iteB_let ?_ ?_ | refine iteB_dt ?_ ?_); · (first | (with_reducible assumption) | (first | omega | (simp only [lens] <;> omega)))) | ((with_reducible first | refine iteB_ltf ?_ ?_ | refine iteB_lef ?_ ?_ | refine iteB_df ?_ ?_); · (first | (with_reducible assumption) | (first | omega | (simp only [lens] <;> omega)))) | ((with_reducible first | refine andB_i ?_ ?_ | refine iteB_t ?_ ?_); · (first | (with_reducible first | assumption | exact decide_eq_true rfl | exact sEq_self _) | ((with_reducible refine eqOK_i ?_); kernel_rfl))) | ((with_reducible refine iteB_f ?_ ?_); · (first | (with_reducible first | assumption | exact decide_eq_true rfl | exact sEq_self _) | ((with_reducible refine eqOK_i ?_); kernel_rfl))) | (with_reducible refine CD.wk_au ?_) | (with_reducible first | refine andB_in ?_ ?_ | refine andB_lt ?_ ?_ | refine andB_le ?_ ?_ | refine andB_d ?_ ?_ | refine andB_i ?_ ?_ | refine iteB_lts (fun hB => ?_) (fun hB => ?_) | refine iteB_les (fun hB => ?_) (fun hB => ?_) | refine iteB_ds (fun hB => ?_) (fun hB => ?_) | refine iteB_s (fun hB => ?_) (fun hB => ?_) | refine CD.wk_as ?_ | refine And.intro ?_ ?_))
            all_goals ((conv => whnf); (try dsimp only); (try simp only [Nat.succ_eq_add_one, Nat.le_eq, castL_self]); (try omega))
            all_goals (try (first | omega | (simp only [lens] <;> omega)))
            all_goals trace_state
        · rcases hp.2 with ha | ⟨ha1, ha2⟩
          all_goals
            repeat' (conv => whnf
                     first | (with_reducible first | exact True.intro | rfl | exact castL_self _ _ | refine iteB_n ?_ | refine iteB_ct ?_ | refine iteB_cf ?_ | refine iteB_bt ?_ | refine iteB_bf ?_ | refine iteB_tb ?_ | refine iteB_fb ?_) | ((with_reducible refine V.same_t ?_); exact rfl) | ((with_reducible refine andB_room ?_ ?_ ?_); (· kernel_rfl); (· (first | omega | (simp only [lens] <;> omega)))) | ((with_reducible first | refine andB_in ?_ ?_ | refine andB_d ?_ ?_ | refine andB_lt ?_ ?_ | refine andB_le ?_ ?_ | refine iteB_ltt ?_ ?_ | refine iteB_let ?_ ?_ | refine iteB_dt ?_ ?_); · (first | (with_reducible assumption) | (first | omega | (simp only [lens] <;> omega)))) | ((with_reducible first | refine iteB_ltf ?_ ?_ | refine iteB_lef ?_ ?_ | refine iteB_df ?_ ?_); · (first | (with_reducible assumption) | (first | omega | (simp only [lens] <;> omega)))) | ((with_reducible first | refine andB_i ?_ ?_ | refine iteB_t ?_ ?_); · (first | (with_reducible first | assumption | exact decide_eq_true rfl | exact sEq_self _) | ((with_reducible refine eqOK_i ?_); kernel_rfl) | (first | exact hf | exact hlb | assumption))) | ((with_reducible refine iteB_f ?_ ?_); · (first | (with_reducible first | assumption | exact decide_eq_true rfl | exact sEq_self _) | ((with_reducible refine eqOK_i ?_); kernel_rfl) | (first | exact hf | exact hlb | assumption))) | (with_reducible refine CD.wk_au ?_) | (with_reducible first | refine andB_in ?_ ?_ | refine andB_lt ?_ ?_ | refine andB_le ?_ ?_ | refine andB_d ?_ ?_ | refine andB_i ?_ ?_ | refine iteB_lts (fun hB => ?_) (fun hB => ?_) | refine iteB_les (fun hB => ?_) (fun hB => ?_) | refine iteB_ds (fun hB => ?_) (fun hB => ?_) | refine iteB_s (fun hB => ?_) (fun hB => ?_) | refine CD.wk_as ?_ | refine And.intro ?_ ?_))
            all_goals ((conv => whnf); (try dsimp only); (try simp only [Nat.succ_eq_add_one, Nat.le_eq, castL_self]); (try omega))
            all_goals (try (first | omega | (simp only [lens] <;> omega)))
          all_goals first
            | omega
            | rfl
            | exact (lastP_0 (by omega)).symm
            | (rw [lastP_1 (by omega), show (((List.length (α := EnR) E : Nat) : Int) - 1).toNat = List.length (α := EnR) E - 1 by omega]; done)
            | (rw [lastP_1 (by omega), show (((List.length (α := EnR) E : Nat) : Int) - 1).toNat = List.length (α := EnR) E - 1 by omega]; rfl)
            | trace_state
    · obtain ⟨e1, e2, e3, e4⟩ := put_no hf hp
      rw [e1, e2, e3, e4]
      have hn : ¬ (idx < i0 ∨ (termI i0 t0 L idx = true ∧ termV i0 t0 L idx = trm)) := fun g => hp ⟨hf, g⟩
      have hge : i0 ≤ idx := by omega
      obtain ⟨K, hK⟩ : ∃ K : Nat, idx = i0 + K := ⟨(idx - i0).toNat, by omega⟩
      have hK2 : (idx - i0).toNat = K := by omega
      have hin := hintI_in i0 t0 L (termV i0 t0 L idx) K
      have hmx : ∀ x : Int, maxI x ((i0 + 1) % 18446744073709551616) = max x (i0 + 1) := fun x => by
        rw [maxI_eq, show (i0 + 1) % 18446744073709551616 = i0 + 1 by omega]
      by_cases hlast : i0 + (L.length : Int) < idx
      · have hv := hintV_hi (t0 := t0) hlast
        have hI : termI i0 t0 L idx = false := by
          cases h : termI i0 t0 L idx with
          | false => rfl
          | true => have := termI_in h; omega
        refine heap_of_H htR1_ok tabR3_ok (fuel := 3) (d := 6) (N := 2) rfl rfl [] (fun _ _ h => by cases h) ?_
        repeat' (conv => whnf
                 first | (with_reducible first | exact True.intro | rfl | exact castL_self _ _ | refine iteB_n ?_ | refine iteB_ct ?_ | refine iteB_cf ?_ | refine iteB_bt ?_ | refine iteB_bf ?_ | refine iteB_tb ?_ | refine iteB_fb ?_) | ((with_reducible refine V.same_t ?_); exact rfl) | ((with_reducible refine andB_room ?_ ?_ ?_); (· kernel_rfl); (· (first | omega | (simp only [lens] <;> omega)))) | ((with_reducible first | refine andB_in ?_ ?_ | refine andB_d ?_ ?_ | refine andB_lt ?_ ?_ | refine andB_le ?_ ?_ | refine iteB_ltt ?_ ?_ | refine iteB_let ?_ ?_ | refine iteB_dt ?_ ?_); · (first | (with_reducible assumption) | (first | omega | (simp only [lens] <;> omega)))) | ((with_reducible first | refine iteB_ltf ?_ ?_ | refine iteB_lef ?_ ?_ | refine iteB_df ?_ ?_); · (first | (with_reducible assumption) | (first | omega | (simp only [lens] <;> omega)))) | ((with_reducible first | refine andB_i ?_ ?_ | refine iteB_t ?_ ?_); · (first | (with_reducible first | assumption | exact decide_eq_true rfl | exact sEq_self _) | ((with_reducible refine eqOK_i ?_); kernel_rfl) | (first | exact hf | exact hlb | exact hI))) | ((with_reducible refine iteB_f ?_ ?_); · (first | (with_reducible first | assumption | exact decide_eq_true rfl | exact sEq_self _) | ((with_reducible refine eqOK_i ?_); kernel_rfl) | (first | exact hf | exact hlb | exact hI))) | (with_reducible refine CD.wk_au ?_) | (with_reducible first | refine andB_in ?_ ?_ | refine andB_lt ?_ ?_ | refine andB_le ?_ ?_ | refine andB_d ?_ ?_ | refine andB_i ?_ ?_ | refine iteB_lts (fun hB => ?_) (fun hB => ?_) | refine iteB_les (fun hB => ?_) (fun hB => ?_) | refine iteB_ds (fun hB => ?_) (fun hB => ?_) | refine iteB_s (fun hB => ?_) (fun hB => ?_) | refine CD.wk_as ?_ | refine And.intro ?_ ?_))
        all_goals ((conv => whnf); (try dsimp only); (try simp only [Nat.succ_eq_add_one, Nat.le_eq, castL_self]); (try omega))
        all_goals (try (first | omega | (simp only [lens] <;> omega)))
        all_goals trace_state
      · have hv := hintV_lo (t0 := t0) hlast
        rw [hK2] at hv
        rw [hv]
        refine heap_of_H htR1_ok tabR3_ok (fuel := 3) (d := 6) (N := 2) rfl rfl [⟨9, [], rhC i0 t0 L ty ty2 (termV i0 t0 L idx) (i0 + K), .leaf (.exit 0) (rhC i0 t0 L ty ty2 (termV i0 t0 L idx) (hintI i0 t0 L (termV i0 t0 L idx) K))⟩] (fun N l hl => ?_) ?_
        · rw [List.mem_singleton.1 hl]
          exact rh_loop i0 t0 L ty ty2 K _ hL (by omega) N
        · cases hI : termI i0 t0 L idx with
          | false =>
            repeat' (conv => whnf
                     first | (with_reducible first | exact True.intro | rfl | exact castL_self _ _ | refine iteB_n ?_ | refine iteB_ct ?_ | refine iteB_cf ?_ | refine iteB_bt ?_ | refine iteB_bf ?_ | refine iteB_tb ?_ | refine iteB_fb ?_) | ((with_reducible refine V.same_t ?_); exact rfl) | ((with_reducible refine andB_room ?_ ?_ ?_); (· kernel_rfl); (· (first | omega | (simp only [lens] <;> omega)))) | ((with_reducible first | refine andB_in ?_ ?_ | refine andB_d ?_ ?_ | refine andB_lt ?_ ?_ | refine andB_le ?_ ?_ | refine iteB_ltt ?_ ?_ | refine iteB_let ?_ ?_ | refine iteB_dt ?_ ?_); · (first | (with_reducible assumption) | (first | omega | (simp only [lens] <;> omega)))) | ((with_reducible first | refine iteB_ltf ?_ ?_ | refine iteB_lef ?_ ?_ | refine iteB_df ?_ ?_); · (first | (with_reducible assumption) | (first | omega | (simp only [lens] <;> omega)))) | ((with_reducible first | refine andB_i ?_ ?_ | refine iteB_t ?_ ?_); · (first | (with_reducible first | assumption | exact decide_eq_true rfl | exact sEq_self _) | ((with_reducible refine eqOK_i ?_); kernel_rfl) | (first | exact hf | exact hlb | exact hI))) | ((with_reducible refine iteB_f ?_ ?_); · (first | (with_reducible first | assumption | exact decide_eq_true rfl | exact sEq_self _) | ((with_reducible refine eqOK_i ?_); kernel_rfl) | (first | exact hf | exact hlb | exact hI))) | (with_reducible refine CD.wk_au ?_) | (with_reducible first | refine andB_in ?_ ?_ | refine andB_lt ?_ ?_ | refine andB_le ?_ ?_ | refine andB_d ?_ ?_ | refine andB_i ?_ ?_ | refine iteB_lts (fun hB => ?_) (fun hB => ?_) | refine iteB_les (fun hB => ?_) (fun hB => ?_) | refine iteB_ds (fun hB => ?_) (fun hB => ?_) | refine iteB_s (fun hB => ?_) (fun hB => ?_) | refine CD.wk_as ?_ | refine And.intro ?_ ?_))
            all_goals ((conv => whnf); (try dsimp only); (try simp only [Nat.succ_eq_add_one, Nat.le_eq, castL_self]); (try omega))
            all_goals (try (first | omega | (simp only [lens] <;> omega)))
            all_goals first
              | exact hmx _
              | exact congrArg (V.int .u64) (hmx _)
              | trace_state
          | true =>
            have hne : ¬ termV i0 t0 L idx = trm := fun g => hn (.inr ⟨hI, g⟩)
            repeat' (conv => whnf
                     first | (with_reducible first | exact True.intro | rfl | exact castL_self _ _ | refine iteB_n ?_ | refine iteB_ct ?_ | refine iteB_cf ?_ | refine iteB_bt ?_ | refine iteB_bf ?_ | refine iteB_tb ?_ | refine iteB_fb ?_) | ((with_reducible refine V.same_t ?_); exact rfl) | ((with_reducible refine andB_room ?_ ?_ ?_); (· kernel_rfl); (· (first | omega | (simp only [lens] <;> omega)))) | ((with_reducible first | refine andB_in ?_ ?_ | refine andB_d ?_ ?_ | refine andB_lt ?_ ?_ | refine andB_le ?_ ?_ | refine iteB_ltt ?_ ?_ | refine iteB_let ?_ ?_ | refine iteB_dt ?_ ?_); · (first | (with_reducible assumption) | (first | omega | (simp only [lens] <;> omega)))) | ((with_reducible first | refine iteB_ltf ?_ ?_ | refine iteB_lef ?_ ?_ | refine iteB_df ?_ ?_); · (first | (with_reducible assumption) | (first | omega | (simp only [lens] <;> omega)))) | ((with_reducible first | refine andB_i ?_ ?_ | refine iteB_t ?_ ?_); · (first | (with_reducible first | assumption | exact decide_eq_true rfl | exact sEq_self _) | ((with_reducible refine eqOK_i ?_); kernel_rfl) | (first | exact hf | exact hlb | exact hI))) | ((with_reducible refine iteB_f ?_ ?_); · (first | (with_reducible first | assumption | exact decide_eq_true rfl | exact sEq_self _) | ((with_reducible refine eqOK_i ?_); kernel_rfl) | (first | exact hf | exact hlb | exact hI))) | (with_reducible refine CD.wk_au ?_) | (with_reducible first | refine andB_in ?_ ?_ | refine andB_lt ?_ ?_ | refine andB_le ?_ ?_ | refine andB_d ?_ ?_ | refine andB_i ?_ ?_ | refine iteB_lts (fun hB => ?_) (fun hB => ?_) | refine iteB_les (fun hB => ?_) (fun hB => ?_) | refine iteB_ds (fun hB => ?_) (fun hB => ?_) | refine iteB_s (fun hB => ?_) (fun hB => ?_) | refine CD.wk_as ?_ | refine And.intro ?_ ?_))
            all_goals ((conv => whnf); (try dsimp only); (try simp only [Nat.succ_eq_add_one, Nat.le_eq, castL_self]); (try omega))
            all_goals (try (first | omega | (simp only [lens] <;> omega)))
            all_goals first
              | exact hmx _
              | exact congrArg (V.int .u64) (hmx _)
              | trace_state
end
noncomputable def rputF (args : List V) (os : List EObj) : Option HRes := match args with
  | [.ptr 0 0, .int .u64 idx, .int .u64 trm, b] => (match asRef os, ofLst entE b with
    | some (ty, ty2, c, i0, t0, L), some E => some (logB i0 t0 L :: leI 0 idx :: ltI idx 18446744073709551616 :: rowsB E :: c, .tup [.int .u64 (pLast i0 t0 L idx trm E), .int .u64 (pHint i0 t0 L idx trm E), .bool (pOk i0 t0 L idx trm E)], rtH i0 t0 (pLog i0 t0 L idx trm E) ty ty2, 2)
    | _, _ => none)
  | _ => none
theorem rputF_ok (args : List V) (os : List EObj) (c : List Bool) (v : V) (h' : List (Nat × EObj)) (n' : Nat) (h : rputF args os = some (c, v, h', n')) (hc : allB c) : HeapAt Try.prog 1 56 args os v h' n' := by
  unfold rputF at h
  split at h
  · rename_i idx trm b
    split at h
    · rename_i ty ty2 c i0 t0 L E ho hE
      cases h
      obtain ⟨c1, c2, c3, c4, c5⟩ := hc
      obtain rfl := asRef_eq ho c5
      rw [leI_eq] at c2
      rw [ltI_eq] at c3
      obtain ⟨e1, e2⟩ := rowsB_of c4
      exact HeapAt.lst (pre := [.ptr 0 0, .int .u64 idx, .int .u64 trm]) (rest := []) (rput_full i0 t0 L idx trm E ty ty2 (logB_of c1) ⟨of_decide_eq_true c2, of_decide_eq_true c3⟩ e1 e2) hE
    · cases h
  · cases h
noncomputable def rpushF (args : List V) (os : List EObj) : Option HRes := match args with
  | [.ptr 0 0, .int .u64 a, .str d] => (match asRef os with
    | some (ty, ty2, c, i0, t0, L) => some (logB i0 t0 L :: leI 0 a :: ltI a 18446744073709551616 :: c, .int .u64 (pushV i0 t0 L a d), rtH i0 t0 (pushL i0 t0 L a d) ty ty2, 2)
    | none => none)
  | _ => none
theorem rpushF_ok (args : List V) (os : List EObj) (c : List Bool) (v : V) (h' : List (Nat × EObj)) (n' : Nat) (h : rpushF args os = some (c, v, h', n')) (hc : allB c) : HeapAt Try.prog 1 53 args os v h' n' := by
  unfold rpushF at h
  split at h
  · split at h
    · rename_i ty ty2 c i0 t0 L ho
      cases h
      obtain ⟨c1, c2, c3, c4⟩ := hc
      obtain rfl := asRef_eq ho c4
      rw [leI_eq] at c2
      rw [ltI_eq] at c3
      exact rpush_at i0 t0 L ty ty2 _ _ (logB_of c1) ⟨of_decide_eq_true c2, of_decide_eq_true c3⟩
    · cases h
  · cases h
noncomputable def rcompF (args : List V) (os : List EObj) : Option HRes := match args with
  | [.ptr 0 0, .int .u64 a] => (match asRef os with
    | some (ty, ty2, c, i0, t0, L) => some (logB i0 t0 L :: leI 0 a :: ltI a 18446744073709551616 :: c, .int .i64 (compE i0 t0 L a), rtH (compI i0 t0 L a) (compT i0 t0 L a) (compL i0 t0 L a) ty ty2, 2)
    | none => none)
  | _ => none
theorem rcompF_ok (args : List V) (os : List EObj) (c : List Bool) (v : V) (h' : List (Nat × EObj)) (n' : Nat) (h : rcompF args os = some (c, v, h', n')) (hc : allB c) : HeapAt Try.prog 1 54 args os v h' n' := by
  unfold rcompF at h
  split at h
  · split at h
    · rename_i ty ty2 c i0 t0 L ho
      cases h
      obtain ⟨c1, c2, c3, c4⟩ := hc
      obtain rfl := asRef_eq ho c4
      rw [leI_eq] at c2
      rw [ltI_eq] at c3
      exact rcomp_at i0 t0 L ty ty2 _ (logB_of c1) ⟨of_decide_eq_true c2, of_decide_eq_true c3⟩
    · cases h
  · cases h
noncomputable def rrestF (args : List V) (os : List EObj) : Option HRes := match args with
  | [.ptr 0 0, .int .u64 a, .int .u64 b] => (match asRef os with
    | some (ty, ty2, c, i0, t0, L) => some (logB i0 t0 L :: leI 0 a :: ltI a 18446744073709551616 :: leI 0 b :: ltI b 18446744073709551616 :: c, .undef, rtH (restI i0 a b) (restT i0 t0 a b) (restL i0 t0 L a b) ty ty2, 2)
    | none => none)
  | _ => none
theorem rrestF_ok (args : List V) (os : List EObj) (c : List Bool) (v : V) (h' : List (Nat × EObj)) (n' : Nat) (h : rrestF args os = some (c, v, h', n')) (hc : allB c) : HeapAt Try.prog 1 55 args os v h' n' := by
  unfold rrestF at h
  split at h
  · split at h
    · rename_i ty ty2 c i0 t0 L ho
      cases h
      obtain ⟨c1, c2, c3, c5, c6, c4⟩ := hc
      obtain rfl := asRef_eq ho c4
      rw [leI_eq] at c2 c5
      rw [ltI_eq] at c3 c6
      exact rrest_at i0 t0 L ty ty2 _ _ (logB_of c1) ⟨of_decide_eq_true c2, of_decide_eq_true c3⟩ ⟨of_decide_eq_true c5, of_decide_eq_true c6⟩
    · cases h
  · cases h
noncomputable def htB : HTab := oneHT 56 1 false rputF (oneHT 53 1 false rpushF (oneHT 54 1 false rcompF (oneHT 55 1 false rrestF
  (oneHT 59 2 false rtermF (oneHT 58 2 false rlastF (oneHT 32 2 false rslF htQ))))))
theorem htB_ok : HTabOK Try.prog htB := oneHT_ok rputF_ok (oneHT_ok rpushF_ok (oneHT_ok rcompF_ok (oneHT_ok rrestF_ok (oneHT_ok rtermF_ok (oneHT_ok rlastF_ok (oneHT_ok rslF_ok htQ_ok))))))
end Go.Proofs.Ytlkbmjdgfbciaaa
end

section
namespace Go.Proofs.Ytlkbmjdgfbciaaa
open Go.Sym
set_option linter.unusedVariables false
set_option linter.unusedSimpArgs false
set_option maxRecDepth 100000
set_option maxHeartbeats 4000000
noncomputable def cutE1 (e : EnR) : EnR := (e.1, e.2.1, e.2.2.extract 0 (min (e.2.2.size : Int) 200).toNat)
noncomputable def cuL : List EnR → Nat → List EnR := hide fun L i => (L.take i).map cutE1
theorem cuL_eq (L : List EnR) (i : Nat) : cuL L i = (L.take i).map cutE1 := by unfold cuL; rw [hide_eq]
theorem cuL_0 (L : List EnR) : cuL L 0 = [] := by rw [cuL_eq]; rfl
theorem cuL_len (L : List EnR) (i : Nat) (h : i ≤ L.length) : (cuL L i).length = i := by rw [cuL_eq, List.length_map, List.length_take]; omega
theorem cuL_succ (L : List EnR) (i : Nat) (h : i < L.length) : cuL L (i + 1) = cuL L i ++ [cutE1 (rowE L i)] := by
  rw [cuL_eq, cuL_eq, List.take_succ_eq_append_getElem h, List.map_append, rowE_is h]; rfl
theorem cuL_row (L : List EnR) (i j : Nat) (h : i ≤ L.length) (hj : j < i) : rowE (cuL L i) j = cutE1 (rowE L j) := by
  have h1 : j < (cuL L i).length := by rw [cuL_len L i h]; exact hj
  have h2 : j < (L.take i).length := by rw [List.length_take]; omega
  rw [← rowE_is h1]
  have : (cuL L i)[j]? = some (cutE1 (rowE L j)) := by
    rw [cuL_eq, List.getElem?_map, List.getElem?_take, if_pos hj, List.getElem?_eq_getElem (show j < L.length by omega), rowE_is (show j < L.length by omega)]
    rfl
  rw [List.getElem?_eq_getElem h1] at this
  exact Option.some.inj this
noncomputable def cutA (L : List EnR) : List EnR := cuL L (min L.length 8)
theorem cutA_len (L : List EnR) : (cutA L).length ≤ 8 := by unfold cutA; rw [cuL_len _ _ (Nat.min_le_left _ _)]; exact Nat.min_le_right _ _
def EntOK (L : List EnR) : Prop := L.length ≤ 9223372036854775807 ∧ ∀ j, j < L.length → (0 ≤ (rowE L j).1 ∧ (rowE L j).1 < 18446744073709551616) ∧ (0 ≤ (rowE L j).2.1 ∧ (rowE L j).2.1 < 18446744073709551616)
theorem cutA_ok {L : List EnR} (h : EntOK L) : ∀ j, j < (cutA L).length → (0 ≤ (rowE (cutA L) j).1 ∧ (rowE (cutA L) j).1 < 18446744073709551616) ∧ (0 ≤ (rowE (cutA L) j).2.1 ∧ (rowE (cutA L) j).2.1 < 18446744073709551616) := by
  intro j hj
  unfold cutA at hj ⊢
  rw [cuL_len _ _ (Nat.min_le_left _ _)] at hj
  rw [cuL_row _ _ _ (Nat.min_le_left _ _) hj]
  exact h.2 j (by omega)
section
variable (L : List EnR)
noncomputable def cuC (i : Nat) : CD := ⟨33, [(0, .lst entE L false), (3, .rs 0 0 i i false 3), (4, .int .i64 (i : Int))], [], [(0, .rows entE (cuL L i) 0 false)], 1⟩
theorem cut_at (hL : L.length ≤ 9223372036854775807) : PureAt Try.prog 26 [.lst entE L false] (.lst entE (cutA L) false) := by
  refine pure_of_loop noTab_ok (fuel := 3) (d := 3) 3 (X := { i : Nat // i ≤ min L.length 8 }) (fun x => cuC L x.1) (fun x => min L.length 8 - x.1) (fun _ => .leaf (.exit 0) (cuC L (min L.length 8))) ⟨0, Nat.zero_le _⟩ [] rfl ?_ ?_
  · rintro ⟨i, hi⟩
    dsimp only
    have hlen := cuL_len L i (by omega)
    rcases Nat.lt_or_ge i (min L.length 8) with hlt | hge
    · have hs := cuL_succ L i (by omega)
      repeat' (conv => whnf
               first | (with_reducible first | exact True.intro | rfl | exact castL_self _ _ | refine iteB_n ?_ | refine iteB_ct ?_ | refine iteB_cf ?_ | refine iteB_bt ?_ | refine iteB_bf ?_ | refine iteB_tb ?_ | refine iteB_fb ?_) | ((with_reducible refine V.same_t ?_); exact rfl) | ((with_reducible refine andB_room ?_ ?_ ?_); (· kernel_rfl); (· (first | omega | (simp only [lens] <;> omega)))) | ((with_reducible first | refine andB_in ?_ ?_ | refine andB_d ?_ ?_ | refine andB_lt ?_ ?_ | refine andB_le ?_ ?_ | refine iteB_ltt ?_ ?_ | refine iteB_let ?_ ?_ | refine iteB_dt ?_ ?_); · (first | (with_reducible assumption) | (first | omega | (simp only [lens] <;> omega)))) | ((with_reducible first | refine iteB_ltf ?_ ?_ | refine iteB_lef ?_ ?_ | refine iteB_df ?_ ?_); · (first | (with_reducible assumption) | (first | omega | (simp only [lens] <;> omega)))) | ((with_reducible first | refine andB_i ?_ ?_ | refine iteB_t ?_ ?_); · (first | (with_reducible first | assumption | exact decide_eq_true rfl | exact sEq_self _) | ((with_reducible refine eqOK_i ?_); kernel_rfl))) | ((with_reducible refine iteB_f ?_ ?_); · (first | (with_reducible first | assumption | exact decide_eq_true rfl | exact sEq_self _) | ((with_reducible refine eqOK_i ?_); kernel_rfl))) | (refine ⟨⟨i + 1, hlt⟩, ?_, rfl, ?_⟩) | (with_reducible refine CD.wk_au ?_) | (with_reducible first | refine andB_in ?_ ?_ | refine andB_lt ?_ ?_ | refine andB_le ?_ ?_ | refine andB_d ?_ ?_ | refine andB_i ?_ ?_ | refine iteB_lts (fun hB => ?_) (fun hB => ?_) | refine iteB_les (fun hB => ?_) (fun hB => ?_) | refine iteB_ds (fun hB => ?_) (fun hB => ?_) | refine iteB_s (fun hB => ?_) (fun hB => ?_) | refine CD.wk_as ?_ | refine And.intro ?_ ?_))
      all_goals ((conv => whnf); (try dsimp only); (try simp only [Nat.succ_eq_add_one, Nat.le_eq, castL_self]); (try omega))
      all_goals (try (first | omega | (simp only [lens] <;> omega)))
      all_goals first
        | omega
        | (rw [hs, seg_all _ hlen]; rfl)
        | trace_state
    · have he : i = min L.length 8 := Nat.le_antisymm hi hge
      subst he
      repeat' (conv => whnf
               first | (with_reducible first | exact True.intro | rfl | exact castL_self _ _ | refine iteB_n ?_ | refine iteB_ct ?_ | refine iteB_cf ?_ | refine iteB_bt ?_ | refine iteB_bf ?_ | refine iteB_tb ?_ | refine iteB_fb ?_) | ((with_reducible refine V.same_t ?_); exact rfl) | ((with_reducible refine andB_room ?_ ?_ ?_); (· kernel_rfl); (· (first | omega | (simp only [lens] <;> omega)))) | ((with_reducible first | refine andB_in ?_ ?_ | refine andB_d ?_ ?_ | refine andB_lt ?_ ?_ | refine andB_le ?_ ?_ | refine iteB_ltt ?_ ?_ | refine iteB_let ?_ ?_ | refine iteB_dt ?_ ?_); · (first | (with_reducible assumption) | (first | omega | (simp only [lens] <;> omega)))) | ((with_reducible first | refine iteB_ltf ?_ ?_ | refine iteB_lef ?_ ?_ | refine iteB_df ?_ ?_); · (first | (with_reducible assumption) | (first | omega | (simp only [lens] <;> omega)))) | ((with_reducible first | refine andB_i ?_ ?_ | refine iteB_t ?_ ?_); · (first | (with_reducible first | assumption | exact decide_eq_true rfl | exact sEq_self _) | ((with_reducible refine eqOK_i ?_); kernel_rfl))) | ((with_reducible refine iteB_f ?_ ?_); · (first | (with_reducible first | assumption | exact decide_eq_true rfl | exact sEq_self _) | ((with_reducible refine eqOK_i ?_); kernel_rfl))) | (with_reducible refine CD.wk_au ?_) | (with_reducible first | refine andB_in ?_ ?_ | refine andB_lt ?_ ?_ | refine andB_le ?_ ?_ | refine andB_d ?_ ?_ | refine andB_i ?_ ?_ | refine iteB_lts (fun hB => ?_) (fun hB => ?_) | refine iteB_les (fun hB => ?_) (fun hB => ?_) | refine iteB_ds (fun hB => ?_) (fun hB => ?_) | refine iteB_s (fun hB => ?_) (fun hB => ?_) | refine CD.wk_as ?_ | refine And.intro ?_ ?_))
      all_goals ((conv => whnf); (try dsimp only); (try simp only [Nat.succ_eq_add_one, Nat.le_eq, castL_self]); (try omega))
      all_goals (try (first | omega | (simp only [lens] <;> omega)))
      all_goals trace_state
  · have h0 := cuL_0 L
    have h1 := cuL_len L (min L.length 8) (Nat.min_le_left _ _)
    repeat' (conv => whnf
             first | (with_reducible first | exact True.intro | rfl | exact castL_self _ _ | refine iteB_n ?_ | refine iteB_ct ?_ | refine iteB_cf ?_ | refine iteB_bt ?_ | refine iteB_bf ?_ | refine iteB_tb ?_ | refine iteB_fb ?_) | ((with_reducible refine V.same_t ?_); exact rfl) | ((with_reducible refine andB_room ?_ ?_ ?_); (· kernel_rfl); (· (first | omega | (simp only [lens] <;> omega)))) | ((with_reducible first | refine andB_in ?_ ?_ | refine andB_d ?_ ?_ | refine andB_lt ?_ ?_ | refine andB_le ?_ ?_ | refine iteB_ltt ?_ ?_ | refine iteB_let ?_ ?_ | refine iteB_dt ?_ ?_); · (first | (with_reducible assumption) | (first | omega | (simp only [lens] <;> omega)))) | ((with_reducible first | refine iteB_ltf ?_ ?_ | refine iteB_lef ?_ ?_ | refine iteB_df ?_ ?_); · (first | (with_reducible assumption) | (first | omega | (simp only [lens] <;> omega)))) | ((with_reducible first | refine andB_i ?_ ?_ | refine iteB_t ?_ ?_); · (first | (with_reducible first | assumption | exact decide_eq_true rfl | exact sEq_self _) | ((with_reducible refine eqOK_i ?_); kernel_rfl))) | ((with_reducible refine iteB_f ?_ ?_); · (first | (with_reducible first | assumption | exact decide_eq_true rfl | exact sEq_self _) | ((with_reducible refine eqOK_i ?_); kernel_rfl))) | (with_reducible refine CD.wk_au ?_) | (with_reducible first | refine andB_in ?_ ?_ | refine andB_lt ?_ ?_ | refine andB_le ?_ ?_ | refine andB_d ?_ ?_ | refine andB_i ?_ ?_ | refine iteB_lts (fun hB => ?_) (fun hB => ?_) | refine iteB_les (fun hB => ?_) (fun hB => ?_) | refine iteB_ds (fun hB => ?_) (fun hB => ?_) | refine iteB_s (fun hB => ?_) (fun hB => ?_) | refine CD.wk_as ?_ | refine And.intro ?_ ?_))
    all_goals ((conv => whnf); (try dsimp only); (try simp only [Nat.succ_eq_add_one, Nat.le_eq, castL_self]); (try omega))
    all_goals (try (first | omega | (simp only [lens] <;> omega)))
    all_goals first
      | omega
      | exact h0.symm
      | exact congrArg (fun l => V.lst entE l false) (seg_all (cuL L (min L.length 8)) h1)
      | trace_state
end
noncomputable def cutF (args : List V) : Option (List Bool × V) := match args with
  | [b] => (match ofLst entE b with
    | some L => some ([decide (List.length (α := EnR) L ≤ 9223372036854775807)], .lst entE (cutA L) false)
    | none => none)
  | _ => none
theorem cutF_ok (args : List V) (c : List Bool) (v : V) (h : cutF args = some (c, v)) (hc : allB c) : PureAt Try.prog 26 args v := by
  unfold cutF at h
  split at h
  · rename_i b
    split at h
    · rename_i L hL
      cases h
      exact PureAt.lst (pre := []) (rest := []) (cut_at L (of_decide_eq_true hc.1)) hL
    · cases h
  · cases h
theorem last_at (i0 t0 : Int) (L : List EnR) (h : LogOK i0 t0 L) : PureAt Try.prog 57 [.lptr logE [(i0, t0, L)] 0 0] (.tup [.int .u64 (i0 + (List.length (α := EnR) L : Nat)), .int .u64 (lastT t0 L)]) := by
  have q1 : @Eq Int (Sym.rowAt logE [(i0, t0, L)] 0).1 i0 := rfl
  have q2 : @Eq Int (Sym.rowAt logE [(i0, t0, L)] 0).2.1 t0 := rfl
  have q3 : List.length (α := rowDen entE) (Sym.rowAt logE [(i0, t0, L)] 0).2.2 = List.length (α := EnR) L := rfl
  have hi := h.hi
  have hl := h.hl
  rcases Nat.eq_zero_or_pos L.length with hz | hz
  · have e1 : V.int .u64 (i0 + (List.length (α := EnR) L : Nat)) = V.int .u64 (Sym.rowAt logE [(i0, t0, L)] 0).1 := by
      show V.int .u64 _ = V.int .u64 i0
      congr 1; omega
    have e2 : V.int .u64 (lastT t0 L) = V.int .u64 (Sym.rowAt logE [(i0, t0, L)] 0).2.1 := congrArg (V.int .u64) (lastT_0 hz)
    rw [e1, e2]
    refine pure_of_W0 (tab := noTab) (fuel := 3) (d := 5) noTab_ok ?_
    repeat' (conv => whnf
             first | (with_reducible first | exact True.intro | rfl | exact castL_self _ _ | refine iteB_n ?_ | refine iteB_ct ?_ | refine iteB_cf ?_ | refine iteB_bt ?_ | refine iteB_bf ?_ | refine iteB_tb ?_ | refine iteB_fb ?_) | ((with_reducible refine V.same_t ?_); exact rfl) | ((with_reducible refine andB_room ?_ ?_ ?_); (· kernel_rfl); (· (first | omega | (simp only [lens] <;> omega)))) | ((with_reducible first | refine andB_in ?_ ?_ | refine andB_d ?_ ?_ | refine andB_lt ?_ ?_ | refine andB_le ?_ ?_ | refine iteB_ltt ?_ ?_ | refine iteB_let ?_ ?_ | refine iteB_dt ?_ ?_); · (first | (with_reducible assumption) | (first | omega | (simp only [lens] <;> omega)))) | ((with_reducible first | refine iteB_ltf ?_ ?_ | refine iteB_lef ?_ ?_ | refine iteB_df ?_ ?_); · (first | (with_reducible assumption) | (first | omega | (simp only [lens] <;> omega)))) | ((with_reducible first | refine andB_i ?_ ?_ | refine iteB_t ?_ ?_); · (first | (with_reducible first | assumption | exact decide_eq_true rfl | exact sEq_self _) | ((with_reducible refine eqOK_i ?_); kernel_rfl))) | ((with_reducible refine iteB_f ?_ ?_); · (first | (with_reducible first | assumption | exact decide_eq_true rfl | exact sEq_self _) | ((with_reducible refine eqOK_i ?_); kernel_rfl))) | (with_reducible first | refine andB_in ?_ ?_ | refine andB_lt ?_ ?_ | refine andB_le ?_ ?_ | refine andB_d ?_ ?_ | refine andB_i ?_ ?_ | refine iteB_lts (fun hB => ?_) (fun hB => ?_) | refine iteB_les (fun hB => ?_) (fun hB => ?_) | refine iteB_ds (fun hB => ?_) (fun hB => ?_) | refine iteB_s (fun hB => ?_) (fun hB => ?_) | refine CD.wk_as ?_ | refine And.intro ?_ ?_))
    all_goals ((conv => whnf); (try dsimp only); (try simp only [Nat.succ_eq_add_one, Nat.le_eq, castL_self]); (try omega))
    all_goals (try (first | omega | (simp only [lens] <;> omega)))
    all_goals trace_state
  · have e1 : V.int .u64 (i0 + (List.length (α := EnR) L : Nat)) = V.int .u64 (Sym.rowAt entE (Sym.rowAt logE [(i0, t0, L)] 0).2.2 (((List.length (α := rowDen entE) (Sym.rowAt logE [(i0, t0, L)] 0).2.2 : Nat) : Int) - 1).toNat).2.1 := by
      show V.int .u64 _ = V.int .u64 (rowE L (((L.length : Nat) : Int) - 1).toNat).2.1
      rw [h.run _ (by omega)]
      congr 1; omega
    have e2 : V.int .u64 (lastT t0 L) = V.int .u64 (Sym.rowAt entE (Sym.rowAt logE [(i0, t0, L)] 0).2.2 (((List.length (α := rowDen entE) (Sym.rowAt logE [(i0, t0, L)] 0).2.2 : Nat) : Int) - 1).toNat).1 := by
      show V.int .u64 _ = V.int .u64 (rowE L (((L.length : Nat) : Int) - 1).toNat).1
      rw [lastT_1 (by omega), show (((L.length : Nat) : Int) - 1).toNat = L.length - 1 by omega]
    rw [e1, e2]
    refine pure_of_W0 (tab := noTab) (fuel := 3) (d := 5) noTab_ok ?_
    repeat' (conv => whnf
             first | (with_reducible first | exact True.intro | rfl | exact castL_self _ _ | refine iteB_n ?_ | refine iteB_ct ?_ | refine iteB_cf ?_ | refine iteB_bt ?_ | refine iteB_bf ?_ | refine iteB_tb ?_ | refine iteB_fb ?_) | ((with_reducible refine V.same_t ?_); exact rfl) | ((with_reducible refine andB_room ?_ ?_ ?_); (· kernel_rfl); (· (first | omega | (simp only [lens] <;> omega)))) | ((with_reducible first | refine andB_in ?_ ?_ | refine andB_d ?_ ?_ | refine andB_lt ?_ ?_ | refine andB_le ?_ ?_ | refine iteB_ltt ?_ ?_ | refine iteB_let ?_ ?_ | refine iteB_dt ?_ ?_); · (first | (with_reducible assumption) | (first | omega | (simp only [lens] <;> omega)))) | ((with_reducible first | refine iteB_ltf ?_ ?_ | refine iteB_lef ?_ ?_ | refine iteB_df ?_ ?_); · (first | (with_reducible assumption) | (first | omega | (simp only [lens] <;> omega)))) | ((with_reducible first | refine andB_i ?_ ?_ | refine iteB_t ?_ ?_); · (first | (with_reducible first | assumption | exact decide_eq_true rfl | exact sEq_self _) | ((with_reducible refine eqOK_i ?_); kernel_rfl))) | ((with_reducible refine iteB_f ?_ ?_); · (first | (with_reducible first | assumption | exact decide_eq_true rfl | exact sEq_self _) | ((with_reducible refine eqOK_i ?_); kernel_rfl))) | (with_reducible first | refine andB_in ?_ ?_ | refine andB_lt ?_ ?_ | refine andB_le ?_ ?_ | refine andB_d ?_ ?_ | refine andB_i ?_ ?_ | refine iteB_lts (fun hB => ?_) (fun hB => ?_) | refine iteB_les (fun hB => ?_) (fun hB => ?_) | refine iteB_ds (fun hB => ?_) (fun hB => ?_) | refine iteB_s (fun hB => ?_) (fun hB => ?_) | refine CD.wk_as ?_ | refine And.intro ?_ ?_))
    all_goals ((conv => whnf); (try dsimp only); (try simp only [Nat.succ_eq_add_one, Nat.le_eq, castL_self]); (try omega))
    all_goals (try (first | omega | (simp only [lens] <;> omega)))
    all_goals trace_state
noncomputable def lastF (args : List V) : Option (List Bool × V) := match args with
  | [a] => (match oneLog a with
    | some (i0, t0, L) => some ([logB i0 t0 L], .tup [.int .u64 (i0 + (List.length (α := EnR) L : Nat)), .int .u64 (lastT t0 L)])
    | none => none)
  | _ => none
theorem lastF_ok (args : List V) (c : List Bool) (v : V) (h : lastF args = some (c, v)) (hc : allB c) : PureAt Try.prog 57 args v := by
  unfold lastF at h
  split at h
  · split at h
    · rename_i i0 t0 L hx
      cases h
      obtain rfl := oneLog_eq hx
      exact last_at i0 t0 L (logB_of hc.1)
    · cases h
  · cases h
noncomputable def tabR5 : Tab := oneTab 26 cutF (oneTab 57 lastF tabR3)
theorem tabR5_ok : TabOK Try.prog tabR5 := oneTab_ok cutF_ok (oneTab_ok lastF_ok tabR3_ok)

abbrev actE : List Ty := [.int .u8, .int .u64, .int .u64, .lst entE, .str]
abbrev ActR := Int × Int × Int × List EnR × ByteArray
noncomputable def dataA (a : ActR) : ByteArray := a.2.2.2.2.extract 0 (min (a.2.2.2.2.size : Int) 4100).toNat
noncomputable def actS (a : ActR) (s : LogR) : LogR :=
  if a.1 % 8 = 4 ∨ a.1 % 8 = 5 then (s.1, s.2.1, pushL s.1 s.2.1 s.2.2 a.2.2.1 (dataA a))
  else if a.1 % 8 = 6 then (compI s.1 s.2.1 s.2.2 a.2.1, compT s.1 s.2.1 s.2.2 a.2.1, compL s.1 s.2.1 s.2.2 a.2.1)
  else if a.1 % 8 = 7 then (restI s.1 a.2.1 a.2.2.1, restT s.1 s.2.1 a.2.1 a.2.2.1, restL s.1 s.2.1 s.2.2 a.2.1 a.2.2.1)
  else (s.1, s.2.1, pLog s.1 s.2.1 s.2.2 a.2.1 a.2.2.1 (cutA a.2.2.2.1))
noncomputable def plS0 (acts : List ActR) (s : LogR) : Nat → LogR
  | 0 => s
  | i + 1 => actS (Sym.rowAt actE acts i) (plS0 acts s i)
noncomputable def plI : List ActR → LogR → Nat → Int := hide fun acts s i => (plS0 acts s i).1
noncomputable def plT : List ActR → LogR → Nat → Int := hide fun acts s i => (plS0 acts s i).2.1
noncomputable def plL : List ActR → LogR → Nat → List EnR := hide fun acts s i => (plS0 acts s i).2.2
theorem plI_eq (acts : List ActR) (s : LogR) (i : Nat) : plI acts s i = (plS0 acts s i).1 := by unfold plI; rw [hide_eq]
theorem plT_eq (acts : List ActR) (s : LogR) (i : Nat) : plT acts s i = (plS0 acts s i).2.1 := by unfold plT; rw [hide_eq]
theorem plL_eq (acts : List ActR) (s : LogR) (i : Nat) : plL acts s i = (plS0 acts s i).2.2 := by unfold plL; rw [hide_eq]
def ActOK (a : ActR) : Prop := (0 ≤ a.1 ∧ a.1 < 256) ∧ (0 ≤ a.2.1 ∧ a.2.1 < 18446744073709551616) ∧ (0 ≤ a.2.2.1 ∧ a.2.2.1 < 18446744073709551616) ∧ EntOK a.2.2.2.1 ∧ a.2.2.2.2.size ≤ 9223372036854775807
theorem compL_len (i0 t0 : Int) (L : List EnR) (i : Int) : (compL i0 t0 L i).length ≤ L.length := by
  by_cases h : termI i0 t0 L i = true
  · rw [(comp_yes h).2.2.2, List.length_drop]; omega
  · rw [(comp_no h).2.2.2]; exact Nat.le_refl _
theorem restL_len (i0 t0 : Int) (L : List EnR) (idx trm : Int) : (restL i0 t0 L idx trm).length ≤ L.length := by
  by_cases h : restAt i0 idx trm
  · rw [(rest_yes (t0 := t0) (L := L) h).2.2]
    split
    · rw [List.length_drop]; omega
    · exact Nat.zero_le _
  · rw [(rest_no (t0 := t0) (L := L) h).2.2]; exact Nat.le_refl _
theorem pushL_len (i0 t0 : Int) (L : List EnR) (trm : Int) (d : ByteArray) : (pushL i0 t0 L trm d).length ≤ L.length + 1 := by
  by_cases h : pushAt i0 t0 L trm d
  · rw [(push_yes h).2, List.length_append]; exact Nat.le_refl _
  · rw [(push_no h).2]; omega
theorem act_ok {a : ActR} {s : LogR} (ha : ActOK a) (hs : LogOK s.1 s.2.1 s.2.2) (hl : s.2.2.length ≤ 900000) : LogOK (actS a s).1 (actS a s).2.1 (actS a s).2.2 ∧ (actS a s).2.2.length ≤ s.2.2.length + 8 := by
  obtain ⟨h1, h2, h3, h4, h5⟩ := ha
  have hc := cutA_len a.2.2.2.1
  unfold actS
  split
  · exact ⟨hs.push h3 (by omega), by have := pushL_len s.1 s.2.1 s.2.2 a.2.2.1 (dataA a); dsimp only; omega⟩
  · split
    · exact ⟨hs.comp _, by have := compL_len s.1 s.2.1 s.2.2 a.2.1; dsimp only; omega⟩
    · split
      · exact ⟨hs.rest h2.1 h3, by have := restL_len s.1 s.2.1 s.2.2 a.2.1 a.2.2.1; dsimp only; omega⟩
      · exact ⟨hs.put h2.1 (by omega) fun j hj => (cutA_ok h4 j hj).1, by have := hs.putLen (idx := a.2.1) (trm := a.2.2.1) (E := cutA a.2.2.2.1) h2.1; dsimp only; omega⟩
theorem pl_ok {acts : List ActR} {s : LogR} (ha : ∀ i, i < acts.length → ActOK (Sym.rowAt actE acts i)) (hs : LogOK s.1 s.2.1 s.2.2) (hl : s.2.2.length ≤ 8) : ∀ i, i ≤ acts.length → i ≤ 40 → LogOK (plS0 acts s i).1 (plS0 acts s i).2.1 (plS0 acts s i).2.2 ∧ (plS0 acts s i).2.2.length ≤ 8 + 8 * i
  | 0, _, _ => ⟨hs, by show s.2.2.length ≤ _; omega⟩
  | i + 1, h1, h2 => by
    obtain ⟨g1, g2⟩ := pl_ok ha hs hl i (by omega) (by omega)
    obtain ⟨q1, q2⟩ := act_ok (ha i (by omega)) g1 (by omega)
    exact ⟨q1, by show (actS _ _).2.2.length ≤ _; omega⟩
end Go.Proofs.Ytlkbmjdgfbciaaa
end

section
namespace Go.Proofs.Ytlkbmjdgfbciaaa
open Go.Sym
set_option linter.unusedVariables false
set_option linter.unusedSimpArgs false
set_option maxRecDepth 100000
set_option maxHeartbeats 4000000
abbrev plO (i0 t0 : Int) (L : List EnR) : List (Nat × EObj) := [(0, logO i0 t0 L 102), (1, .cells [.int .u64 i0, .int .u64 t0, .rs 2 0 (List.length (α := EnR) L) (List.length (α := EnR) L) false 3] 105 false), (2, .rows entE L 58 false)]
section
variable (acts : List ActR) (s : LogR) (asks : List Int)
noncomputable def plC (i : Nat) : CD := ⟨134, [(1, .lst actE acts false), (2, .lst [.int .u64] asks false), (7, .ptr 0 0), (9, .ptr 1 0), (11, .int .i64 (i : Int))], [], plO (plI acts s i) (plT acts s i) (plL acts s i), 3⟩
noncomputable def pkC (i0 t0 : Int) (L : List EnR) (j : Nat) : CD := ⟨134, [(2, .lst [.int .u64] asks false), (7, .ptr 0 0), (9, .ptr 1 0), (12, .int .i64 (j : Int))], [], plO i0 t0 L, 3⟩
theorem same_cond {i0 t0 : Int} {L : List EnR} (h : LogOK i0 t0 L) : eqE' (slF 0 9223372036854775808 L L.length) (seg L 0 L.length) = true := by
  have e : slF 0 9223372036854775808 L L.length = L := slF_all fun j hj => by
    have h1 := h.hi
    have h2 := h.top
    rw [h.run j hj]; omega
  rw [e, seg_all _ rfl]
  exact eqE_self _
theorem pk_loop (i0 t0 : Int) (L : List EnR) (h : LogOK i0 t0 L) (hl : asks.length ≤ 9223372036854775807) (hw : ∀ i, i < asks.length → @LE.le Int _ 0 (Sym.rowAt [.int .u64] asks i) ∧ @LT.lt Int _ (Sym.rowAt [.int .u64] asks i) 18446744073709551616) (N : Nat) : LpD.ok Try.prog N 0 (bodyOf Try.prog 7) ⟨11, [(0, 0), (1, 1), (2, 2)], pkC asks i0 t0 L 0, .leaf (.exit 2) (pkC asks i0 t0 L (min (asks.length - 1) 10))⟩ := by
  refine LpD.ok_one (b := bodyAt Try.prog 7 11) rfl (loop_H htB_ok tabR5_ok (fuel := 3) (d := 5) (X := { j : Nat // j ≤ min (asks.length - 1) 10 }) (fun x => pkC asks i0 t0 L x.1) (fun x => min (asks.length - 1) 10 - x.1)
    (fun _ => .leaf (.exit 2) (pkC asks i0 t0 L (min (asks.length - 1) 10))) (fun _ => []) (fun _ _ h => by cases h) ?_ ⟨0, Nat.zero_le _⟩)
  rintro ⟨j, hj⟩
  dsimp only
  have hlb := logB_ok h
  have hll := h.hl
  have hsc := same_cond h
  have hi0 := h.hi
  have ht0 := h.ht
  rcases Nat.lt_or_ge j (min (asks.length - 1) 10) with hlt | hge
  · obtain ⟨wa, ewa⟩ : ∃ w : Int, @Eq Int w (Sym.rowAt [.int .u64] asks (Int.toNat (j : Int))) := ⟨_, rfl⟩
    obtain ⟨wb, ewb⟩ : ∃ w : Int, @Eq Int w (Sym.rowAt [.int .u64] asks (Int.toNat ((j : Int) + 1))) := ⟨_, rfl⟩
    have hwa : 0 ≤ wa ∧ wa < 18446744073709551616 := by rw [ewa]; exact hw j (by omega)
    have hwb : 0 ≤ wb ∧ wb < 18446744073709551616 := by
      rw [ewb, show Int.toNat ((j : Int) + 1) = j + 1 by omega]; exact hw (j + 1) (by omega)
    repeat' (conv => whnf
             first | (with_reducible first | exact True.intro | rfl | exact castL_self _ _ | refine iteB_n ?_ | refine iteB_ct ?_ | refine iteB_cf ?_ | refine iteB_bt ?_ | refine iteB_bf ?_ | refine iteB_tb ?_ | refine iteB_fb ?_) | ((with_reducible refine V.same_t ?_); exact rfl) | ((with_reducible refine andB_room ?_ ?_ ?_); (· kernel_rfl); (· (first | omega | (simp only [lens] <;> omega)))) | ((with_reducible first | refine andB_in ?_ ?_ | refine andB_d ?_ ?_ | refine andB_lt ?_ ?_ | refine andB_le ?_ ?_ | refine iteB_ltt ?_ ?_ | refine iteB_let ?_ ?_ | refine iteB_dt ?_ ?_); · (first | (with_reducible assumption) | (first | omega | (simp only [lens] <;> omega)))) | ((with_reducible first | refine iteB_ltf ?_ ?_ | refine iteB_lef ?_ ?_ | refine iteB_df ?_ ?_); · (first | (with_reducible assumption) | (first | omega | (simp only [lens] <;> omega)))) | ((with_reducible first | refine andB_i ?_ ?_ | refine iteB_t ?_ ?_); · (first | (with_reducible first | assumption | exact decide_eq_true rfl | exact sEq_self _) | ((with_reducible refine eqOK_i ?_); kernel_rfl) | (first | exact hlb | exact hsc | exact eqE_self _ | exact decide_eq_true rfl))) | ((with_reducible refine iteB_f ?_ ?_); · (first | (with_reducible first | assumption | exact decide_eq_true rfl | exact sEq_self _) | ((with_reducible refine eqOK_i ?_); kernel_rfl) | (first | exact hlb | exact hsc | exact eqE_self _ | exact decide_eq_true rfl))) | (refine ⟨⟨j + 1, hlt⟩, ?_, rfl, ?_⟩) | (with_reducible refine CD.wk_au ?_) | (with_reducible first | refine andB_in ?_ ?_ | refine andB_lt ?_ ?_ | refine andB_le ?_ ?_ | refine andB_d ?_ ?_ | refine andB_i ?_ ?_ | refine iteB_lts (fun hB => ?_) (fun hB => ?_) | refine iteB_les (fun hB => ?_) (fun hB => ?_) | refine iteB_ds (fun hB => ?_) (fun hB => ?_) | refine iteB_s (fun hB => ?_) (fun hB => ?_) | refine CD.wk_as ?_ | refine And.intro ?_ ?_))
    all_goals ((conv => whnf); (try dsimp only); (try simp only [Nat.succ_eq_add_one, Nat.le_eq, castL_self]); (try omega))
    all_goals (try (first | omega | (simp only [lens] <;> omega)))
    all_goals first
      | exact Nat.le_trans (slF_len _ _ _ _) (Nat.le_trans hll (by decide))
      | (rw [seg_all _ rfl]; exact eqE_self _)
      | trace_state
  · have he : j = min (asks.length - 1) 10 := Nat.le_antisymm hj hge
    subst he
    repeat' (conv => whnf
             first | (with_reducible first | exact True.intro | rfl | exact castL_self _ _ | refine iteB_n ?_ | refine iteB_ct ?_ | refine iteB_cf ?_ | refine iteB_bt ?_ | refine iteB_bf ?_ | refine iteB_tb ?_ | refine iteB_fb ?_) | ((with_reducible refine V.same_t ?_); exact rfl) | ((with_reducible refine andB_room ?_ ?_ ?_); (· kernel_rfl); (· (first | omega | (simp only [lens] <;> omega)))) | ((with_reducible first | refine andB_in ?_ ?_ | refine andB_d ?_ ?_ | refine andB_lt ?_ ?_ | refine andB_le ?_ ?_ | refine iteB_ltt ?_ ?_ | refine iteB_let ?_ ?_ | refine iteB_dt ?_ ?_); · (first | (with_reducible assumption) | (first | omega | (simp only [lens] <;> omega)))) | ((with_reducible first | refine iteB_ltf ?_ ?_ | refine iteB_lef ?_ ?_ | refine iteB_df ?_ ?_); · (first | (with_reducible assumption) | (first | omega | (simp only [lens] <;> omega)))) | ((with_reducible first | refine andB_i ?_ ?_ | refine iteB_t ?_ ?_); · (first | (with_reducible first | assumption | exact decide_eq_true rfl | exact sEq_self _) | ((with_reducible refine eqOK_i ?_); kernel_rfl))) | ((with_reducible refine iteB_f ?_ ?_); · (first | (with_reducible first | assumption | exact decide_eq_true rfl | exact sEq_self _) | ((with_reducible refine eqOK_i ?_); kernel_rfl))) | (with_reducible refine CD.wk_au ?_) | (with_reducible first | refine andB_in ?_ ?_ | refine andB_lt ?_ ?_ | refine andB_le ?_ ?_ | refine andB_d ?_ ?_ | refine andB_i ?_ ?_ | refine iteB_lts (fun hB => ?_) (fun hB => ?_) | refine iteB_les (fun hB => ?_) (fun hB => ?_) | refine iteB_ds (fun hB => ?_) (fun hB => ?_) | refine iteB_s (fun hB => ?_) (fun hB => ?_) | refine CD.wk_as ?_ | refine And.intro ?_ ?_))
    all_goals ((conv => whnf); (try dsimp only); (try simp only [Nat.succ_eq_add_one, Nat.le_eq, castL_self]); (try omega))
    all_goals (try (first | omega | (simp only [lens] <;> omega)))
    all_goals trace_state
theorem pl_loop (hl : acts.length ≤ 9223372036854775807) (ha : ∀ i, i < acts.length → ActOK (Sym.rowAt actE acts i)) (hs : LogOK s.1 s.2.1 s.2.2) (hs8 : s.2.2.length ≤ 8) (N : Nat) : LpD.ok Try.prog N 0 (bodyOf Try.prog 7) ⟨6, [(0, 0), (1, 1), (2, 2)], plC acts s asks 0, .leaf (.exit 0) (plC acts s asks (min acts.length 40))⟩ := by
  refine LpD.ok_one (b := bodyAt Try.prog 7 6) rfl (loop_H htB_ok tabR5_ok (fuel := 3) (d := 6) (X := { i : Nat // i ≤ min acts.length 40 }) (fun x => plC acts s asks x.1) (fun x => min acts.length 40 - x.1)
    (fun _ => .leaf (.exit 0) (plC acts s asks (min acts.length 40))) (fun _ => []) (fun _ _ h => by cases h) ?_ ⟨0, Nat.zero_le _⟩)
  rintro ⟨i, hi⟩
  dsimp only
  obtain ⟨h1, h2⟩ := pl_ok ha hs hs8 i (by omega) (by omega)
  have nI := plI_eq acts s i
  have nT := plT_eq acts s i
  have nL := plL_eq acts s i
  rw [← nI, ← nT, ← nL] at h1
  rw [← nL] at h2
  have hlb := logB_ok h1
  have hll := h1.hl
  have hsc := same_cond h1
  have hi0 := h1.hi
  have ht0 := h1.ht
  rcases Nat.lt_or_ge i (min acts.length 40) with hlt | hge
  · obtain ⟨h1', h2'⟩ := pl_ok ha hs hs8 (i + 1) (by omega) (by omega)
    have nI' := plI_eq acts s (i + 1)
    have nT' := plT_eq acts s (i + 1)
    have nL' := plL_eq acts s (i + 1)
    have eS : plS0 acts s (i + 1) = actS (Sym.rowAt actE acts i) (plI acts s i, plT acts s i, plL acts s i) := by
      rw [nI, nT, nL]; rfl
    have hact := ha i (by omega)
    obtain ⟨a1, a2, a3, a4, a5⟩ := hact
    have hcl := cutA_len (Sym.rowAt actE acts i).2.2.2.1
    have hco := cutA_ok a4
    have hrb : rowsB (cutA (Sym.rowAt actE acts i).2.2.2.1) = true := rowsB_ok (by omega) fun j hj => (hco j hj).2
    have hel := a4.1
    obtain ⟨w, ew⟩ : ∃ w : Int, @Eq Int w (Sym.rowAt actE acts (Int.toNat (i : Int))).1 := ⟨_, rfl⟩
    have ew0 : @Eq Int (Sym.rowAt actE acts i).1 w := ew.symm
    obtain ⟨x, ex⟩ : ∃ w : Int, @Eq Int w (Sym.rowAt actE acts (Int.toNat (i : Int))).2.1 := ⟨_, rfl⟩
    have ex0 : @Eq Int (Sym.rowAt actE acts i).2.1 x := ex.symm
    obtain ⟨y, ey⟩ : ∃ w : Int, @Eq Int w (Sym.rowAt actE acts (Int.toNat (i : Int))).2.2.1 := ⟨_, rfl⟩
    have ey0 : @Eq Int (Sym.rowAt actE acts i).2.2.1 y := ey.symm
    rw [ew0] at a1
    rw [ex0] at a2
    rw [ey0] at a3
    by_cases c1 : w % 8 = 4 ∨ w % 8 = 5
    · have eA : actS (Sym.rowAt actE acts i) (plI acts s i, plT acts s i, plL acts s i) = _ := if_pos (by rw [ew0]; exact c1)
      rw [eS, eA] at nI' nT' nL' h1'
      have hnI : plI acts s (i + 1) = plI acts s i := nI'
      have hnT : plT acts s (i + 1) = plT acts s i := nT'
      have hnL : plL acts s (i + 1) = pushL (plI acts s i) (plT acts s i) (plL acts s i) (Sym.rowAt actE acts (Int.toNat (i : Int))).2.2.1 (dataA (Sym.rowAt actE acts (Int.toNat (i : Int)))) := nL'
      dsimp only at h1'
      have hlb2 := logB_ok h1'
      have hll2 := h1'.hl
      have hsc2 := same_cond h1'
      rcases c1 with c1 | c1
      · repeat' (conv => whnf
                 first | (with_reducible first | exact True.intro | rfl | exact castL_self _ _ | refine iteB_n ?_ | refine iteB_ct ?_ | refine iteB_cf ?_ | refine iteB_bt ?_ | refine iteB_bf ?_ | refine iteB_tb ?_ | refine iteB_fb ?_) | ((with_reducible refine V.same_t ?_); exact rfl) | ((with_reducible refine andB_room ?_ ?_ ?_); (· kernel_rfl); (· (first | omega | (simp only [lens] <;> omega)))) | ((with_reducible first | refine andB_in ?_ ?_ | refine andB_d ?_ ?_ | refine andB_lt ?_ ?_ | refine andB_le ?_ ?_ | refine iteB_ltt ?_ ?_ | refine iteB_let ?_ ?_ | refine iteB_dt ?_ ?_); · (first | (with_reducible assumption) | (first | omega | (simp only [lens] <;> omega)))) | ((with_reducible first | refine iteB_ltf ?_ ?_ | refine iteB_lef ?_ ?_ | refine iteB_df ?_ ?_); · (first | (with_reducible assumption) | (first | omega | (simp only [lens] <;> omega)))) | ((with_reducible first | refine andB_i ?_ ?_ | refine iteB_t ?_ ?_); · (first | (with_reducible first | assumption | exact decide_eq_true rfl | exact sEq_self _) | ((with_reducible refine eqOK_i ?_); kernel_rfl) | (first | exact hlb | exact hsc | exact hlb2 | exact hsc2 | exact hrb | exact decide_eq_true rfl))) | ((with_reducible refine iteB_f ?_ ?_); · (first | (with_reducible first | assumption | exact decide_eq_true rfl | exact sEq_self _) | ((with_reducible refine eqOK_i ?_); kernel_rfl) | (first | exact hlb | exact hsc | exact hlb2 | exact hsc2 | exact hrb | exact decide_eq_true rfl))) | (refine ⟨⟨i + 1, hlt⟩, ?_, rfl, ?_⟩) | (with_reducible refine CD.wk_au ?_) | (with_reducible first | refine andB_in ?_ ?_ | refine andB_lt ?_ ?_ | refine andB_le ?_ ?_ | refine andB_d ?_ ?_ | refine andB_i ?_ ?_ | refine iteB_lts (fun hB => ?_) (fun hB => ?_) | refine iteB_les (fun hB => ?_) (fun hB => ?_) | refine iteB_ds (fun hB => ?_) (fun hB => ?_) | refine iteB_s (fun hB => ?_) (fun hB => ?_) | refine CD.wk_as ?_ | refine And.intro ?_ ?_))
        all_goals ((conv => whnf); (try dsimp only); (try simp only [Nat.succ_eq_add_one, Nat.le_eq, castL_self]); (try omega))
        all_goals (try (first | omega | (simp only [lens] <;> omega)))
        all_goals first
          | omega
          | exact hnI.symm
          | exact hnT.symm
          | exact hnL.symm
          | exact congrArg List.length hnL.symm
          | exact Nat.le_of_eq (congrArg List.length hnL)
          | exact hel
          | exact hll2
          | exact Nat.le_trans hll2 (by decide)
          | exact Nat.le_trans (slF_len _ _ _ _) (Nat.le_trans hll2 (by decide))
          | exact Nat.le_trans (slF_len _ _ _ _) (Nat.le_trans hll (by decide))
          | trace_state
      · repeat' (conv => whnf
                 first | (with_reducible first | exact True.intro | rfl | exact castL_self _ _ | refine iteB_n ?_ | refine iteB_ct ?_ | refine iteB_cf ?_ | refine iteB_bt ?_ | refine iteB_bf ?_ | refine iteB_tb ?_ | refine iteB_fb ?_) | ((with_reducible refine V.same_t ?_); exact rfl) | ((with_reducible refine andB_room ?_ ?_ ?_); (· kernel_rfl); (· (first | omega | (simp only [lens] <;> omega)))) | ((with_reducible first | refine andB_in ?_ ?_ | refine andB_d ?_ ?_ | refine andB_lt ?_ ?_ | refine andB_le ?_ ?_ | refine iteB_ltt ?_ ?_ | refine iteB_let ?_ ?_ | refine iteB_dt ?_ ?_); · (first | (with_reducible assumption) | (first | omega | (simp only [lens] <;> omega)))) | ((with_reducible first | refine iteB_ltf ?_ ?_ | refine iteB_lef ?_ ?_ | refine iteB_df ?_ ?_); · (first | (with_reducible assumption) | (first | omega | (simp only [lens] <;> omega)))) | ((with_reducible first | refine andB_i ?_ ?_ | refine iteB_t ?_ ?_); · (first | (with_reducible first | assumption | exact decide_eq_true rfl | exact sEq_self _) | ((with_reducible refine eqOK_i ?_); kernel_rfl) | (first | exact hlb | exact hsc | exact hlb2 | exact hsc2 | exact hrb | exact decide_eq_true rfl))) | ((with_reducible refine iteB_f ?_ ?_); · (first | (with_reducible first | assumption | exact decide_eq_true rfl | exact sEq_self _) | ((with_reducible refine eqOK_i ?_); kernel_rfl) | (first | exact hlb | exact hsc | exact hlb2 | exact hsc2 | exact hrb | exact decide_eq_true rfl))) | (refine ⟨⟨i + 1, hlt⟩, ?_, rfl, ?_⟩) | (with_reducible refine CD.wk_au ?_) | (with_reducible first | refine andB_in ?_ ?_ | refine andB_lt ?_ ?_ | refine andB_le ?_ ?_ | refine andB_d ?_ ?_ | refine andB_i ?_ ?_ | refine iteB_lts (fun hB => ?_) (fun hB => ?_) | refine iteB_les (fun hB => ?_) (fun hB => ?_) | refine iteB_ds (fun hB => ?_) (fun hB => ?_) | refine iteB_s (fun hB => ?_) (fun hB => ?_) | refine CD.wk_as ?_ | refine And.intro ?_ ?_))
        all_goals ((conv => whnf); (try dsimp only); (try simp only [Nat.succ_eq_add_one, Nat.le_eq, castL_self]); (try omega))
        all_goals (try (first | omega | (simp only [lens] <;> omega)))
        all_goals first
          | omega
          | exact hnI.symm
          | exact hnT.symm
          | exact hnL.symm
          | exact congrArg List.length hnL.symm
          | exact Nat.le_of_eq (congrArg List.length hnL)
          | exact hel
          | exact hll2
          | exact Nat.le_trans hll2 (by decide)
          | exact Nat.le_trans (slF_len _ _ _ _) (Nat.le_trans hll2 (by decide))
          | exact Nat.le_trans (slF_len _ _ _ _) (Nat.le_trans hll (by decide))
          | trace_state
    · by_cases c2 : w % 8 = 6
      · have eA : actS (Sym.rowAt actE acts i) (plI acts s i, plT acts s i, plL acts s i) = _ := (if_neg (by rw [ew0]; exact c1)).trans (if_pos (by rw [ew0]; exact c2))
        rw [eS, eA] at nI' nT' nL' h1'
        have hnI : plI acts s (i + 1) = compI (plI acts s i) (plT acts s i) (plL acts s i) (Sym.rowAt actE acts (Int.toNat (i : Int))).2.1 := nI'
        have hi02 : 0 ≤ compI (plI acts s i) (plT acts s i) (plL acts s i) (Sym.rowAt actE acts (Int.toNat (i : Int))).2.1 ∧ compI (plI acts s i) (plT acts s i) (plL acts s i) (Sym.rowAt actE acts (Int.toNat (i : Int))).2.1 ≤ 1099511627776 := h1'.hi
        have hnT : plT acts s (i + 1) = compT (plI acts s i) (plT acts s i) (plL acts s i) (Sym.rowAt actE acts (Int.toNat (i : Int))).2.1 := nT'
        have hnL : plL acts s (i + 1) = compL (plI acts s i) (plT acts s i) (plL acts s i) (Sym.rowAt actE acts (Int.toNat (i : Int))).2.1 := nL'
        dsimp only at h1'
        have hlb2 := logB_ok h1'
        have hll2 := h1'.hl
        have hsc2 := same_cond h1'
        repeat' (conv => whnf
                 first | (with_reducible first | exact True.intro | rfl | exact castL_self _ _ | refine iteB_n ?_ | refine iteB_ct ?_ | refine iteB_cf ?_ | refine iteB_bt ?_ | refine iteB_bf ?_ | refine iteB_tb ?_ | refine iteB_fb ?_) | ((with_reducible refine V.same_t ?_); exact rfl) | ((with_reducible refine andB_room ?_ ?_ ?_); (· kernel_rfl); (· (first | omega | (simp only [lens] <;> omega)))) | ((with_reducible first | refine andB_in ?_ ?_ | refine andB_d ?_ ?_ | refine andB_lt ?_ ?_ | refine andB_le ?_ ?_ | refine iteB_ltt ?_ ?_ | refine iteB_let ?_ ?_ | refine iteB_dt ?_ ?_); · (first | (with_reducible assumption) | (first | omega | (simp only [lens] <;> omega)))) | ((with_reducible first | refine iteB_ltf ?_ ?_ | refine iteB_lef ?_ ?_ | refine iteB_df ?_ ?_); · (first | (with_reducible assumption) | (first | omega | (simp only [lens] <;> omega)))) | ((with_reducible first | refine andB_i ?_ ?_ | refine iteB_t ?_ ?_); · (first | (with_reducible first | assumption | exact decide_eq_true rfl | exact sEq_self _) | ((with_reducible refine eqOK_i ?_); kernel_rfl) | (first | exact hlb | exact hsc | exact hlb2 | exact hsc2 | exact hrb | exact decide_eq_true rfl))) | ((with_reducible refine iteB_f ?_ ?_); · (first | (with_reducible first | assumption | exact decide_eq_true rfl | exact sEq_self _) | ((with_reducible refine eqOK_i ?_); kernel_rfl) | (first | exact hlb | exact hsc | exact hlb2 | exact hsc2 | exact hrb | exact decide_eq_true rfl))) | (refine ⟨⟨i + 1, hlt⟩, ?_, rfl, ?_⟩) | (with_reducible refine CD.wk_au ?_) | (with_reducible first | refine andB_in ?_ ?_ | refine andB_lt ?_ ?_ | refine andB_le ?_ ?_ | refine andB_d ?_ ?_ | refine andB_i ?_ ?_ | refine iteB_lts (fun hB => ?_) (fun hB => ?_) | refine iteB_les (fun hB => ?_) (fun hB => ?_) | refine iteB_ds (fun hB => ?_) (fun hB => ?_) | refine iteB_s (fun hB => ?_) (fun hB => ?_) | refine CD.wk_as ?_ | refine And.intro ?_ ?_))
        all_goals ((conv => whnf); (try dsimp only); (try simp only [Nat.succ_eq_add_one, Nat.le_eq, castL_self]); (try omega))
        all_goals (try (first | omega | (simp only [lens] <;> omega)))
        all_goals first
          | omega
          | exact hnI.symm
          | exact hnT.symm
          | exact hnL.symm
          | exact congrArg List.length hnL.symm
          | exact Nat.le_of_eq (congrArg List.length hnL)
          | exact hel
          | exact hll2
          | exact Nat.le_trans hll2 (by decide)
          | exact Nat.le_trans (slF_len _ _ _ _) (Nat.le_trans hll2 (by decide))
          | exact Nat.le_trans (slF_len _ _ _ _) (Nat.le_trans hll (by decide))
          | trace_state
      · by_cases c3 : w % 8 = 7
        · have eA : actS (Sym.rowAt actE acts i) (plI acts s i, plT acts s i, plL acts s i) = _ := (if_neg (by rw [ew0]; exact c1)).trans ((if_neg (by rw [ew0]; exact c2)).trans (if_pos (by rw [ew0]; exact c3)))
          rw [eS, eA] at nI' nT' nL' h1'
          have hnI : plI acts s (i + 1) = restI (plI acts s i) (Sym.rowAt actE acts (Int.toNat (i : Int))).2.1 (Sym.rowAt actE acts (Int.toNat (i : Int))).2.2.1 := nI'
          have hi02 : 0 ≤ restI (plI acts s i) (Sym.rowAt actE acts (Int.toNat (i : Int))).2.1 (Sym.rowAt actE acts (Int.toNat (i : Int))).2.2.1 ∧ restI (plI acts s i) (Sym.rowAt actE acts (Int.toNat (i : Int))).2.1 (Sym.rowAt actE acts (Int.toNat (i : Int))).2.2.1 ≤ 1099511627776 := h1'.hi
          have hnT : plT acts s (i + 1) = restT (plI acts s i) (plT acts s i) (Sym.rowAt actE acts (Int.toNat (i : Int))).2.1 (Sym.rowAt actE acts (Int.toNat (i : Int))).2.2.1 := nT'
          have hnL : plL acts s (i + 1) = restL (plI acts s i) (plT acts s i) (plL acts s i) (Sym.rowAt actE acts (Int.toNat (i : Int))).2.1 (Sym.rowAt actE acts (Int.toNat (i : Int))).2.2.1 := nL'
          dsimp only at h1'
          have hlb2 := logB_ok h1'
          have hll2 := h1'.hl
          have hsc2 := same_cond h1'
          repeat' (conv => whnf
                   first | (with_reducible first | exact True.intro | rfl | exact castL_self _ _ | refine iteB_n ?_ | refine iteB_ct ?_ | refine iteB_cf ?_ | refine iteB_bt ?_ | refine iteB_bf ?_ | refine iteB_tb ?_ | refine iteB_fb ?_) | ((with_reducible refine V.same_t ?_); exact rfl) | ((with_reducible refine andB_room ?_ ?_ ?_); (· kernel_rfl); (· (first | omega | (simp only [lens] <;> omega)))) | ((with_reducible first | refine andB_in ?_ ?_ | refine andB_d ?_ ?_ | refine andB_lt ?_ ?_ | refine andB_le ?_ ?_ | refine iteB_ltt ?_ ?_ | refine iteB_let ?_ ?_ | refine iteB_dt ?_ ?_); · (first | (with_reducible assumption) | (first | omega | (simp only [lens] <;> omega)))) | ((with_reducible first | refine iteB_ltf ?_ ?_ | refine iteB_lef ?_ ?_ | refine iteB_df ?_ ?_); · (first | (with_reducible assumption) | (first | omega | (simp only [lens] <;> omega)))) | ((with_reducible first | refine andB_i ?_ ?_ | refine iteB_t ?_ ?_); · (first | (with_reducible first | assumption | exact decide_eq_true rfl | exact sEq_self _) | ((with_reducible refine eqOK_i ?_); kernel_rfl) | (first | exact hlb | exact hsc | exact hlb2 | exact hsc2 | exact hrb | exact decide_eq_true rfl))) | ((with_reducible refine iteB_f ?_ ?_); · (first | (with_reducible first | assumption | exact decide_eq_true rfl | exact sEq_self _) | ((with_reducible refine eqOK_i ?_); kernel_rfl) | (first | exact hlb | exact hsc | exact hlb2 | exact hsc2 | exact hrb | exact decide_eq_true rfl))) | (refine ⟨⟨i + 1, hlt⟩, ?_, rfl, ?_⟩) | (with_reducible refine CD.wk_au ?_) | (with_reducible first | refine andB_in ?_ ?_ | refine andB_lt ?_ ?_ | refine andB_le ?_ ?_ | refine andB_d ?_ ?_ | refine andB_i ?_ ?_ | refine iteB_lts (fun hB => ?_) (fun hB => ?_) | refine iteB_les (fun hB => ?_) (fun hB => ?_) | refine iteB_ds (fun hB => ?_) (fun hB => ?_) | refine iteB_s (fun hB => ?_) (fun hB => ?_) | refine CD.wk_as ?_ | refine And.intro ?_ ?_))
          all_goals ((conv => whnf); (try dsimp only); (try simp only [Nat.succ_eq_add_one, Nat.le_eq, castL_self]); (try omega))
          all_goals (try (first | omega | (simp only [lens] <;> omega)))
          all_goals first
            | omega
            | exact hnI.symm
            | exact hnT.symm
            | exact hnL.symm
            | exact congrArg List.length hnL.symm
            | exact Nat.le_of_eq (congrArg List.length hnL)
            | exact hel
            | exact hll2
            | exact Nat.le_trans hll2 (by decide)
            | exact Nat.le_trans (slF_len _ _ _ _) (Nat.le_trans hll2 (by decide))
            | exact Nat.le_trans (slF_len _ _ _ _) (Nat.le_trans hll (by decide))
            | trace_state
        · have eA : actS (Sym.rowAt actE acts i) (plI acts s i, plT acts s i, plL acts s i) = _ := (if_neg (by rw [ew0]; exact c1)).trans ((if_neg (by rw [ew0]; exact c2)).trans (if_neg (by rw [ew0]; exact c3)))
          rw [eS, eA] at nI' nT' nL' h1'
          have hnI : plI acts s (i + 1) = plI acts s i := nI'
          have hnT : plT acts s (i + 1) = plT acts s i := nT'
          have hnL : plL acts s (i + 1) = pLog (plI acts s i) (plT acts s i) (plL acts s i) (Sym.rowAt actE acts (Int.toNat (i : Int))).2.1 (Sym.rowAt actE acts (Int.toNat (i : Int))).2.2.1 (cutA (Sym.rowAt actE acts (Int.toNat (i : Int))).2.2.2.1) := nL'
          dsimp only at h1'
          have hlb2 := logB_ok h1'
          have hll2 := h1'.hl
          have hsc2 := same_cond h1'
          repeat' (conv => whnf
                   first | (with_reducible first | exact True.intro | rfl | exact castL_self _ _ | refine iteB_n ?_ | refine iteB_ct ?_ | refine iteB_cf ?_ | refine iteB_bt ?_ | refine iteB_bf ?_ | refine iteB_tb ?_ | refine iteB_fb ?_) | ((with_reducible refine V.same_t ?_); exact rfl) | ((with_reducible refine andB_room ?_ ?_ ?_); (· kernel_rfl); (· (first | omega | (simp only [lens] <;> omega)))) | ((with_reducible first | refine andB_in ?_ ?_ | refine andB_d ?_ ?_ | refine andB_lt ?_ ?_ | refine andB_le ?_ ?_ | refine iteB_ltt ?_ ?_ | refine iteB_let ?_ ?_ | refine iteB_dt ?_ ?_); · (first | (with_reducible assumption) | (first | omega | (simp only [lens] <;> omega)))) | ((with_reducible first | refine iteB_ltf ?_ ?_ | refine iteB_lef ?_ ?_ | refine iteB_df ?_ ?_); · (first | (with_reducible assumption) | (first | omega | (simp only [lens] <;> omega)))) | ((with_reducible first | refine andB_i ?_ ?_ | refine iteB_t ?_ ?_); · (first | (with_reducible first | assumption | exact decide_eq_true rfl | exact sEq_self _) | ((with_reducible refine eqOK_i ?_); kernel_rfl) | (first | exact hlb | exact hsc | exact hlb2 | exact hsc2 | exact hrb | exact decide_eq_true rfl))) | ((with_reducible refine iteB_f ?_ ?_); · (first | (with_reducible first | assumption | exact decide_eq_true rfl | exact sEq_self _) | ((with_reducible refine eqOK_i ?_); kernel_rfl) | (first | exact hlb | exact hsc | exact hlb2 | exact hsc2 | exact hrb | exact decide_eq_true rfl))) | (refine ⟨⟨i + 1, hlt⟩, ?_, rfl, ?_⟩) | (with_reducible refine CD.wk_au ?_) | (with_reducible first | refine andB_in ?_ ?_ | refine andB_lt ?_ ?_ | refine andB_le ?_ ?_ | refine andB_d ?_ ?_ | refine andB_i ?_ ?_ | refine iteB_lts (fun hB => ?_) (fun hB => ?_) | refine iteB_les (fun hB => ?_) (fun hB => ?_) | refine iteB_ds (fun hB => ?_) (fun hB => ?_) | refine iteB_s (fun hB => ?_) (fun hB => ?_) | refine CD.wk_as ?_ | refine And.intro ?_ ?_))
          all_goals ((conv => whnf); (try dsimp only); (try simp only [Nat.succ_eq_add_one, Nat.le_eq, castL_self]); (try omega))
          all_goals (try (first | omega | (simp only [lens] <;> omega)))
          all_goals first
            | omega
            | exact hnI.symm
            | exact hnT.symm
            | exact hnL.symm
            | exact congrArg List.length hnL.symm
            | exact Nat.le_of_eq (congrArg List.length hnL)
            | exact hel
            | exact hll2
            | exact Nat.le_trans hll2 (by decide)
            | exact Nat.le_trans (slF_len _ _ _ _) (Nat.le_trans hll2 (by decide))
            | exact Nat.le_trans (slF_len _ _ _ _) (Nat.le_trans hll (by decide))
            | trace_state
  · have he : i = min acts.length 40 := Nat.le_antisymm hi hge
    subst he
    repeat' (conv => whnf
             first | (with_reducible first | exact True.intro | rfl | exact castL_self _ _ | refine iteB_n ?_ | refine iteB_ct ?_ | refine iteB_cf ?_ | refine iteB_bt ?_ | refine iteB_bf ?_ | refine iteB_tb ?_ | refine iteB_fb ?_) | ((with_reducible refine V.same_t ?_); exact rfl) | ((with_reducible refine andB_room ?_ ?_ ?_); (· kernel_rfl); (· (first | omega | (simp only [lens] <;> omega)))) | ((with_reducible first | refine andB_in ?_ ?_ | refine andB_d ?_ ?_ | refine andB_lt ?_ ?_ | refine andB_le ?_ ?_ | refine iteB_ltt ?_ ?_ | refine iteB_let ?_ ?_ | refine iteB_dt ?_ ?_); · (first | (with_reducible assumption) | (first | omega | (simp only [lens] <;> omega)))) | ((with_reducible first | refine iteB_ltf ?_ ?_ | refine iteB_lef ?_ ?_ | refine iteB_df ?_ ?_); · (first | (with_reducible assumption) | (first | omega | (simp only [lens] <;> omega)))) | ((with_reducible first | refine andB_i ?_ ?_ | refine iteB_t ?_ ?_); · (first | (with_reducible first | assumption | exact decide_eq_true rfl | exact sEq_self _) | ((with_reducible refine eqOK_i ?_); kernel_rfl))) | ((with_reducible refine iteB_f ?_ ?_); · (first | (with_reducible first | assumption | exact decide_eq_true rfl | exact sEq_self _) | ((with_reducible refine eqOK_i ?_); kernel_rfl))) | (with_reducible refine CD.wk_au ?_) | (with_reducible first | refine andB_in ?_ ?_ | refine andB_lt ?_ ?_ | refine andB_le ?_ ?_ | refine andB_d ?_ ?_ | refine andB_i ?_ ?_ | refine iteB_lts (fun hB => ?_) (fun hB => ?_) | refine iteB_les (fun hB => ?_) (fun hB => ?_) | refine iteB_ds (fun hB => ?_) (fun hB => ?_) | refine iteB_s (fun hB => ?_) (fun hB => ?_) | refine CD.wk_as ?_ | refine And.intro ?_ ?_))
    all_goals ((conv => whnf); (try dsimp only); (try simp only [Nat.succ_eq_add_one, Nat.le_eq, castL_self]); (try omega))
    all_goals (try (first | omega | (simp only [lens] <;> omega)))
    all_goals trace_state
end
end Go.Proofs.Ytlkbmjdgfbciaaa
end

section
namespace Go.Proofs.Ytlkbmjdgfbciaaa
open Go.Sym
set_option linter.unusedVariables false
set_option linter.unusedSimpArgs false
set_option maxRecDepth 100000
set_option maxHeartbeats 4000000
theorem rlogPlays_at (a : ActR) (acts : List ActR) (asks : List Int) (ha : ActOK a) (hl : acts.length ≤ 9223372036854775807) (hacts : ∀ i, i < acts.length → ActOK (Sym.rowAt actE acts i)) (hl2 : asks.length ≤ 9223372036854775807) (hw : ∀ i, i < asks.length → @LE.le Int _ 0 (Sym.rowAt [.int .u64] asks i) ∧ @LT.lt Int _ (Sym.rowAt [.int .u64] asks i) 18446744073709551616) :
    PureAt Try.prog 7 [.agg [.int .u8 a.1, .int .u64 a.2.1, .int .u64 a.2.2.1, .lst entE a.2.2.2.1 false, .str a.2.2.2.2], .lst actE acts false, .lst [.int .u64] asks false] (.bool true) := by
  obtain ⟨w0, x0, y0, E0, d0⟩ := a
  obtain ⟨a1, a2, a3, a4, a5⟩ := ha
  dsimp only at a1 a2 a3 a4 a5 ⊢
  have hel := a4.1
  have hcl := cutA_len E0
  have hco := cutA_ok a4
  cases hx0 : decide (x0 = 0) with
  | true =>
    have hx0' := of_decide_eq_true hx0
    cases hy0 : decide (y0 = 0) with
    | false =>
      have hy0' := of_decide_eq_false hy0
      cases hf : folL x0 y0 (cutA E0) with
      | true =>
        refine pure_of_H htB_ok tabR5_ok (fuel := 3) (d := 6) [] (fun _ _ h => by cases h) ?_
        repeat' (conv => whnf
                 first | (with_reducible first | exact True.intro | rfl | exact castL_self _ _ | refine iteB_n ?_ | refine iteB_ct ?_ | refine iteB_cf ?_ | refine iteB_bt ?_ | refine iteB_bf ?_ | refine iteB_tb ?_ | refine iteB_fb ?_) | ((with_reducible refine V.same_t ?_); exact rfl) | ((with_reducible refine andB_room ?_ ?_ ?_); (· kernel_rfl); (· (first | omega | (simp only [lens] <;> omega)))) | ((with_reducible first | refine andB_in ?_ ?_ | refine andB_d ?_ ?_ | refine andB_lt ?_ ?_ | refine andB_le ?_ ?_ | refine iteB_ltt ?_ ?_ | refine iteB_let ?_ ?_ | refine iteB_dt ?_ ?_); · (first | (with_reducible assumption) | (first | omega | (simp only [lens] <;> omega)))) | ((with_reducible first | refine iteB_ltf ?_ ?_ | refine iteB_lef ?_ ?_ | refine iteB_df ?_ ?_); · (first | (with_reducible assumption) | (first | omega | (simp only [lens] <;> omega)))) | ((with_reducible first | refine andB_i ?_ ?_ | refine iteB_t ?_ ?_); · (first | (with_reducible first | assumption | exact decide_eq_true rfl | exact sEq_self _) | ((with_reducible refine eqOK_i ?_); kernel_rfl) | (first | (rw [hx0, hy0]; rfl) | exact hf))) | ((with_reducible refine iteB_f ?_ ?_); · (first | (with_reducible first | assumption | exact decide_eq_true rfl | exact sEq_self _) | ((with_reducible refine eqOK_i ?_); kernel_rfl) | (first | (rw [hx0, hy0]; rfl) | exact hf))) | (with_reducible first | refine andB_in ?_ ?_ | refine andB_lt ?_ ?_ | refine andB_le ?_ ?_ | refine andB_d ?_ ?_ | refine andB_i ?_ ?_ | refine iteB_lts (fun hB => ?_) (fun hB => ?_) | refine iteB_les (fun hB => ?_) (fun hB => ?_) | refine iteB_ds (fun hB => ?_) (fun hB => ?_) | refine iteB_s (fun hB => ?_) (fun hB => ?_) | refine CD.wk_as ?_ | refine And.intro ?_ ?_))
        all_goals ((conv => whnf); (try dsimp only); (try simp only [Nat.succ_eq_add_one, Nat.le_eq, castL_self]); (try omega))
        all_goals (try (first | omega | (simp only [lens] <;> omega)))
        all_goals first
          | rfl
          | exact hel
          | trace_state
      | false =>
        refine pure_of_H htB_ok tabR5_ok (fuel := 3) (d := 6) [] (fun _ _ h => by cases h) ?_
        repeat' (conv => whnf
                 first | (with_reducible first | exact True.intro | rfl | exact castL_self _ _ | refine iteB_n ?_ | refine iteB_ct ?_ | refine iteB_cf ?_ | refine iteB_bt ?_ | refine iteB_bf ?_ | refine iteB_tb ?_ | refine iteB_fb ?_) | ((with_reducible refine V.same_t ?_); exact rfl) | ((with_reducible refine andB_room ?_ ?_ ?_); (· kernel_rfl); (· (first | omega | (simp only [lens] <;> omega)))) | ((with_reducible first | refine andB_in ?_ ?_ | refine andB_d ?_ ?_ | refine andB_lt ?_ ?_ | refine andB_le ?_ ?_ | refine iteB_ltt ?_ ?_ | refine iteB_let ?_ ?_ | refine iteB_dt ?_ ?_); · (first | (with_reducible assumption) | (first | omega | (simp only [lens] <;> omega)))) | ((with_reducible first | refine iteB_ltf ?_ ?_ | refine iteB_lef ?_ ?_ | refine iteB_df ?_ ?_); · (first | (with_reducible assumption) | (first | omega | (simp only [lens] <;> omega)))) | ((with_reducible first | refine andB_i ?_ ?_ | refine iteB_t ?_ ?_); · (first | (with_reducible first | assumption | exact decide_eq_true rfl | exact sEq_self _) | ((with_reducible refine eqOK_i ?_); kernel_rfl) | (first | (rw [hx0, hy0]; rfl) | exact hf))) | ((with_reducible refine iteB_f ?_ ?_); · (first | (with_reducible first | assumption | exact decide_eq_true rfl | exact sEq_self _) | ((with_reducible refine eqOK_i ?_); kernel_rfl) | (first | (rw [hx0, hy0]; rfl) | exact hf))) | (with_reducible first | refine andB_in ?_ ?_ | refine andB_lt ?_ ?_ | refine andB_le ?_ ?_ | refine andB_d ?_ ?_ | refine andB_i ?_ ?_ | refine iteB_lts (fun hB => ?_) (fun hB => ?_) | refine iteB_les (fun hB => ?_) (fun hB => ?_) | refine iteB_ds (fun hB => ?_) (fun hB => ?_) | refine iteB_s (fun hB => ?_) (fun hB => ?_) | refine CD.wk_as ?_ | refine And.intro ?_ ?_))
        all_goals ((conv => whnf); (try dsimp only); (try simp only [Nat.succ_eq_add_one, Nat.le_eq, castL_self]); (try omega))
        all_goals (try (first | omega | (simp only [lens] <;> omega)))
        all_goals first
          | rfl
          | exact hel
          | trace_state
    | true =>
      have hy0' := of_decide_eq_true hy0
      cases hf : folL x0 y0 (cutA E0) with
      | false =>
        refine pure_of_H htB_ok tabR5_ok (fuel := 3) (d := 6) [] (fun _ _ h => by cases h) ?_
        repeat' (conv => whnf
                 first | (with_reducible first | exact True.intro | rfl | exact castL_self _ _ | refine iteB_n ?_ | refine iteB_ct ?_ | refine iteB_cf ?_ | refine iteB_bt ?_ | refine iteB_bf ?_ | refine iteB_tb ?_ | refine iteB_fb ?_) | ((with_reducible refine V.same_t ?_); exact rfl) | ((with_reducible refine andB_room ?_ ?_ ?_); (· kernel_rfl); (· (first | omega | (simp only [lens] <;> omega)))) | ((with_reducible first | refine andB_in ?_ ?_ | refine andB_d ?_ ?_ | refine andB_lt ?_ ?_ | refine andB_le ?_ ?_ | refine iteB_ltt ?_ ?_ | refine iteB_let ?_ ?_ | refine iteB_dt ?_ ?_); · (first | (with_reducible assumption) | (first | omega | (simp only [lens] <;> omega)))) | ((with_reducible first | refine iteB_ltf ?_ ?_ | refine iteB_lef ?_ ?_ | refine iteB_df ?_ ?_); · (first | (with_reducible assumption) | (first | omega | (simp only [lens] <;> omega)))) | ((with_reducible first | refine andB_i ?_ ?_ | refine iteB_t ?_ ?_); · (first | (with_reducible first | assumption | exact decide_eq_true rfl | exact sEq_self _) | ((with_reducible refine eqOK_i ?_); kernel_rfl) | (first | (rw [hx0, hy0]; rfl) | exact hf))) | ((with_reducible refine iteB_f ?_ ?_); · (first | (with_reducible first | assumption | exact decide_eq_true rfl | exact sEq_self _) | ((with_reducible refine eqOK_i ?_); kernel_rfl) | (first | (rw [hx0, hy0]; rfl) | exact hf))) | (with_reducible first | refine andB_in ?_ ?_ | refine andB_lt ?_ ?_ | refine andB_le ?_ ?_ | refine andB_d ?_ ?_ | refine andB_i ?_ ?_ | refine iteB_lts (fun hB => ?_) (fun hB => ?_) | refine iteB_les (fun hB => ?_) (fun hB => ?_) | refine iteB_ds (fun hB => ?_) (fun hB => ?_) | refine iteB_s (fun hB => ?_) (fun hB => ?_) | refine CD.wk_as ?_ | refine And.intro ?_ ?_))
        all_goals ((conv => whnf); (try dsimp only); (try simp only [Nat.succ_eq_add_one, Nat.le_eq, castL_self]); (try omega))
        all_goals (try (first | omega | (simp only [lens] <;> omega)))
        all_goals first
          | rfl
          | exact hel
          | trace_state
      | true =>
        have hx40 : 0 ≤ x0 ∧ x0 ≤ 1099511627776 := ⟨a2.1, by omega⟩
        have hs : LogOK x0 y0 (cutA E0) := ⟨hx40, a3, by omega, fol_run hf (by omega), fol_top hf (by omega), fun j hj => (hco j hj).1⟩
        obtain ⟨g1, g2⟩ := pl_ok (s := (x0, y0, cutA E0)) hacts hs hcl (min acts.length 40) (Nat.min_le_left _ _) (Nat.min_le_right _ _)
        rw [← plI_eq, ← plT_eq, ← plL_eq] at g1
        have n0 : plI acts (x0, y0, cutA E0) 0 = x0 := plI_eq _ _ _
        have n1 : plT acts (x0, y0, cutA E0) 0 = y0 := plT_eq _ _ _
        have n2 : plL acts (x0, y0, cutA E0) 0 = cutA E0 := plL_eq _ _ _
        refine pure_of_H htB_ok tabR5_ok (fuel := 3) (d := 6) [⟨6, [(0, 1), (1, 3), (2, 2)], plC acts (x0, y0, cutA E0) asks 0, .leaf (.exit 0) (plC acts (x0, y0, cutA E0) asks (min acts.length 40))⟩, ⟨11, [(0, 0), (1, 1), (2, 2)], pkC asks (plI acts (x0, y0, cutA E0) (min acts.length 40)) (plT acts (x0, y0, cutA E0) (min acts.length 40)) (plL acts (x0, y0, cutA E0) (min acts.length 40)) 0, .leaf (.exit 2) (pkC asks (plI acts (x0, y0, cutA E0) (min acts.length 40)) (plT acts (x0, y0, cutA E0) (min acts.length 40)) (plL acts (x0, y0, cutA E0) (min acts.length 40)) (min (asks.length - 1) 10))⟩] (fun N l hl' => ?_) ?_
        · rcases List.mem_cons.1 hl' with rfl | hl'
          · exact pl_loop acts _ asks hl hacts hs hcl N
          · rw [List.mem_singleton.1 hl']
            exact pk_loop asks _ _ _ g1 hl2 hw N
        · repeat' (conv => whnf
                   first | (with_reducible first | exact True.intro | rfl | exact castL_self _ _ | refine iteB_n ?_ | refine iteB_ct ?_ | refine iteB_cf ?_ | refine iteB_bt ?_ | refine iteB_bf ?_ | refine iteB_tb ?_ | refine iteB_fb ?_) | ((with_reducible refine V.same_t ?_); exact rfl) | ((with_reducible refine andB_room ?_ ?_ ?_); (· kernel_rfl); (· (first | omega | (simp only [lens] <;> omega)))) | ((with_reducible first | refine andB_in ?_ ?_ | refine andB_d ?_ ?_ | refine andB_lt ?_ ?_ | refine andB_le ?_ ?_ | refine iteB_ltt ?_ ?_ | refine iteB_let ?_ ?_ | refine iteB_dt ?_ ?_); · (first | (with_reducible assumption) | (first | omega | (simp only [lens] <;> omega)))) | ((with_reducible first | refine iteB_ltf ?_ ?_ | refine iteB_lef ?_ ?_ | refine iteB_df ?_ ?_); · (first | (with_reducible assumption) | (first | omega | (simp only [lens] <;> omega)))) | ((with_reducible first | refine andB_i ?_ ?_ | refine iteB_t ?_ ?_); · (first | (with_reducible first | assumption | exact decide_eq_true rfl | exact sEq_self _) | ((with_reducible refine eqOK_i ?_); kernel_rfl) | (first | (rw [hx0, hy0]; rfl) | exact hf))) | ((with_reducible refine iteB_f ?_ ?_); · (first | (with_reducible first | assumption | exact decide_eq_true rfl | exact sEq_self _) | ((with_reducible refine eqOK_i ?_); kernel_rfl) | (first | (rw [hx0, hy0]; rfl) | exact hf))) | (with_reducible first | refine andB_in ?_ ?_ | refine andB_lt ?_ ?_ | refine andB_le ?_ ?_ | refine andB_d ?_ ?_ | refine andB_i ?_ ?_ | refine iteB_lts (fun hB => ?_) (fun hB => ?_) | refine iteB_les (fun hB => ?_) (fun hB => ?_) | refine iteB_ds (fun hB => ?_) (fun hB => ?_) | refine iteB_s (fun hB => ?_) (fun hB => ?_) | refine CD.wk_as ?_ | refine And.intro ?_ ?_))
          all_goals ((conv => whnf); (try dsimp only); (try simp only [Nat.succ_eq_add_one, Nat.le_eq, castL_self]); (try omega))
          all_goals (try (first | omega | (simp only [lens] <;> omega)))
          all_goals first
            | exact hel
            | exact n0.symm
            | exact n1.symm
            | exact n2.symm
            | exact congrArg List.length n2.symm
            | exact Nat.le_of_eq (congrArg List.length n2)
            | omega
            | trace_state
  | false =>
    have hx0' := of_decide_eq_false hx0
    by_cases cA : 1099511627776 < x0
    · cases hy0 : decide (y0 = 0) with
      | true =>
        have hy0' := of_decide_eq_true hy0
        cases hf : folL x0 y0 (cutA E0) with
        | true =>
          refine pure_of_H htB_ok tabR5_ok (fuel := 3) (d := 6) [] (fun _ _ h => by cases h) ?_
          repeat' (conv => whnf
                   first | (with_reducible first | exact True.intro | rfl | exact castL_self _ _ | refine iteB_n ?_ | refine iteB_ct ?_ | refine iteB_cf ?_ | refine iteB_bt ?_ | refine iteB_bf ?_ | refine iteB_tb ?_ | refine iteB_fb ?_) | ((with_reducible refine V.same_t ?_); exact rfl) | ((with_reducible refine andB_room ?_ ?_ ?_); (· kernel_rfl); (· (first | omega | (simp only [lens] <;> omega)))) | ((with_reducible first | refine andB_in ?_ ?_ | refine andB_d ?_ ?_ | refine andB_lt ?_ ?_ | refine andB_le ?_ ?_ | refine iteB_ltt ?_ ?_ | refine iteB_let ?_ ?_ | refine iteB_dt ?_ ?_); · (first | (with_reducible assumption) | (first | omega | (simp only [lens] <;> omega)))) | ((with_reducible first | refine iteB_ltf ?_ ?_ | refine iteB_lef ?_ ?_ | refine iteB_df ?_ ?_); · (first | (with_reducible assumption) | (first | omega | (simp only [lens] <;> omega)))) | ((with_reducible first | refine andB_i ?_ ?_ | refine iteB_t ?_ ?_); · (first | (with_reducible first | assumption | exact decide_eq_true rfl | exact sEq_self _) | ((with_reducible refine eqOK_i ?_); kernel_rfl) | (first | (rw [hx0, hy0]; rfl) | exact hf))) | ((with_reducible refine iteB_f ?_ ?_); · (first | (with_reducible first | assumption | exact decide_eq_true rfl | exact sEq_self _) | ((with_reducible refine eqOK_i ?_); kernel_rfl) | (first | (rw [hx0, hy0]; rfl) | exact hf))) | (with_reducible first | refine andB_in ?_ ?_ | refine andB_lt ?_ ?_ | refine andB_le ?_ ?_ | refine andB_d ?_ ?_ | refine andB_i ?_ ?_ | refine iteB_lts (fun hB => ?_) (fun hB => ?_) | refine iteB_les (fun hB => ?_) (fun hB => ?_) | refine iteB_ds (fun hB => ?_) (fun hB => ?_) | refine iteB_s (fun hB => ?_) (fun hB => ?_) | refine CD.wk_as ?_ | refine And.intro ?_ ?_))
          all_goals ((conv => whnf); (try dsimp only); (try simp only [Nat.succ_eq_add_one, Nat.le_eq, castL_self]); (try omega))
          all_goals (try (first | omega | (simp only [lens] <;> omega)))
          all_goals first
            | rfl
            | exact hel
            | trace_state
        | false =>
          refine pure_of_H htB_ok tabR5_ok (fuel := 3) (d := 6) [] (fun _ _ h => by cases h) ?_
          repeat' (conv => whnf
                   first | (with_reducible first | exact True.intro | rfl | exact castL_self _ _ | refine iteB_n ?_ | refine iteB_ct ?_ | refine iteB_cf ?_ | refine iteB_bt ?_ | refine iteB_bf ?_ | refine iteB_tb ?_ | refine iteB_fb ?_) | ((with_reducible refine V.same_t ?_); exact rfl) | ((with_reducible refine andB_room ?_ ?_ ?_); (· kernel_rfl); (· (first | omega | (simp only [lens] <;> omega)))) | ((with_reducible first | refine andB_in ?_ ?_ | refine andB_d ?_ ?_ | refine andB_lt ?_ ?_ | refine andB_le ?_ ?_ | refine iteB_ltt ?_ ?_ | refine iteB_let ?_ ?_ | refine iteB_dt ?_ ?_); · (first | (with_reducible assumption) | (first | omega | (simp only [lens] <;> omega)))) | ((with_reducible first | refine iteB_ltf ?_ ?_ | refine iteB_lef ?_ ?_ | refine iteB_df ?_ ?_); · (first | (with_reducible assumption) | (first | omega | (simp only [lens] <;> omega)))) | ((with_reducible first | refine andB_i ?_ ?_ | refine iteB_t ?_ ?_); · (first | (with_reducible first | assumption | exact decide_eq_true rfl | exact sEq_self _) | ((with_reducible refine eqOK_i ?_); kernel_rfl) | (first | (rw [hx0, hy0]; rfl) | exact hf))) | ((with_reducible refine iteB_f ?_ ?_); · (first | (with_reducible first | assumption | exact decide_eq_true rfl | exact sEq_self _) | ((with_reducible refine eqOK_i ?_); kernel_rfl) | (first | (rw [hx0, hy0]; rfl) | exact hf))) | (with_reducible first | refine andB_in ?_ ?_ | refine andB_lt ?_ ?_ | refine andB_le ?_ ?_ | refine andB_d ?_ ?_ | refine andB_i ?_ ?_ | refine iteB_lts (fun hB => ?_) (fun hB => ?_) | refine iteB_les (fun hB => ?_) (fun hB => ?_) | refine iteB_ds (fun hB => ?_) (fun hB => ?_) | refine iteB_s (fun hB => ?_) (fun hB => ?_) | refine CD.wk_as ?_ | refine And.intro ?_ ?_))
          all_goals ((conv => whnf); (try dsimp only); (try simp only [Nat.succ_eq_add_one, Nat.le_eq, castL_self]); (try omega))
          all_goals (try (first | omega | (simp only [lens] <;> omega)))
          all_goals first
            | rfl
            | exact hel
            | trace_state
      | false =>
        have hy0' := of_decide_eq_false hy0
        cases hf : folL x0 y0 (cutA E0) with
        | true =>
          refine pure_of_H htB_ok tabR5_ok (fuel := 3) (d := 6) [] (fun _ _ h => by cases h) ?_
          repeat' (conv => whnf
                   first | (with_reducible first | exact True.intro | rfl | exact castL_self _ _ | refine iteB_n ?_ | refine iteB_ct ?_ | refine iteB_cf ?_ | refine iteB_bt ?_ | refine iteB_bf ?_ | refine iteB_tb ?_ | refine iteB_fb ?_) | ((with_reducible refine V.same_t ?_); exact rfl) | ((with_reducible refine andB_room ?_ ?_ ?_); (· kernel_rfl); (· (first | omega | (simp only [lens] <;> omega)))) | ((with_reducible first | refine andB_in ?_ ?_ | refine andB_d ?_ ?_ | refine andB_lt ?_ ?_ | refine andB_le ?_ ?_ | refine iteB_ltt ?_ ?_ | refine iteB_let ?_ ?_ | refine iteB_dt ?_ ?_); · (first | (with_reducible assumption) | (first | omega | (simp only [lens] <;> omega)))) | ((with_reducible first | refine iteB_ltf ?_ ?_ | refine iteB_lef ?_ ?_ | refine iteB_df ?_ ?_); · (first | (with_reducible assumption) | (first | omega | (simp only [lens] <;> omega)))) | ((with_reducible first | refine andB_i ?_ ?_ | refine iteB_t ?_ ?_); · (first | (with_reducible first | assumption | exact decide_eq_true rfl | exact sEq_self _) | ((with_reducible refine eqOK_i ?_); kernel_rfl) | (first | (rw [hx0, hy0]; rfl) | exact hf))) | ((with_reducible refine iteB_f ?_ ?_); · (first | (with_reducible first | assumption | exact decide_eq_true rfl | exact sEq_self _) | ((with_reducible refine eqOK_i ?_); kernel_rfl) | (first | (rw [hx0, hy0]; rfl) | exact hf))) | (with_reducible first | refine andB_in ?_ ?_ | refine andB_lt ?_ ?_ | refine andB_le ?_ ?_ | refine andB_d ?_ ?_ | refine andB_i ?_ ?_ | refine iteB_lts (fun hB => ?_) (fun hB => ?_) | refine iteB_les (fun hB => ?_) (fun hB => ?_) | refine iteB_ds (fun hB => ?_) (fun hB => ?_) | refine iteB_s (fun hB => ?_) (fun hB => ?_) | refine CD.wk_as ?_ | refine And.intro ?_ ?_))
          all_goals ((conv => whnf); (try dsimp only); (try simp only [Nat.succ_eq_add_one, Nat.le_eq, castL_self]); (try omega))
          all_goals (try (first | omega | (simp only [lens] <;> omega)))
          all_goals first
            | rfl
            | exact hel
            | trace_state
        | false =>
          refine pure_of_H htB_ok tabR5_ok (fuel := 3) (d := 6) [] (fun _ _ h => by cases h) ?_
          repeat' (conv => whnf
                   first | (with_reducible first | exact True.intro | rfl | exact castL_self _ _ | refine iteB_n ?_ | refine iteB_ct ?_ | refine iteB_cf ?_ | refine iteB_bt ?_ | refine iteB_bf ?_ | refine iteB_tb ?_ | refine iteB_fb ?_) | ((with_reducible refine V.same_t ?_); exact rfl) | ((with_reducible refine andB_room ?_ ?_ ?_); (· kernel_rfl); (· (first | omega | (simp only [lens] <;> omega)))) | ((with_reducible first | refine andB_in ?_ ?_ | refine andB_d ?_ ?_ | refine andB_lt ?_ ?_ | refine andB_le ?_ ?_ | refine iteB_ltt ?_ ?_ | refine iteB_let ?_ ?_ | refine iteB_dt ?_ ?_); · (first | (with_reducible assumption) | (first | omega | (simp only [lens] <;> omega)))) | ((with_reducible first | refine iteB_ltf ?_ ?_ | refine iteB_lef ?_ ?_ | refine iteB_df ?_ ?_); · (first | (with_reducible assumption) | (first | omega | (simp only [lens] <;> omega)))) | ((with_reducible first | refine andB_i ?_ ?_ | refine iteB_t ?_ ?_); · (first | (with_reducible first | assumption | exact decide_eq_true rfl | exact sEq_self _) | ((with_reducible refine eqOK_i ?_); kernel_rfl) | (first | (rw [hx0, hy0]; rfl) | exact hf))) | ((with_reducible refine iteB_f ?_ ?_); · (first | (with_reducible first | assumption | exact decide_eq_true rfl | exact sEq_self _) | ((with_reducible refine eqOK_i ?_); kernel_rfl) | (first | (rw [hx0, hy0]; rfl) | exact hf))) | (with_reducible first | refine andB_in ?_ ?_ | refine andB_lt ?_ ?_ | refine andB_le ?_ ?_ | refine andB_d ?_ ?_ | refine andB_i ?_ ?_ | refine iteB_lts (fun hB => ?_) (fun hB => ?_) | refine iteB_les (fun hB => ?_) (fun hB => ?_) | refine iteB_ds (fun hB => ?_) (fun hB => ?_) | refine iteB_s (fun hB => ?_) (fun hB => ?_) | refine CD.wk_as ?_ | refine And.intro ?_ ?_))
          all_goals ((conv => whnf); (try dsimp only); (try simp only [Nat.succ_eq_add_one, Nat.le_eq, castL_self]); (try omega))
          all_goals (try (first | omega | (simp only [lens] <;> omega)))
          all_goals first
            | rfl
            | exact hel
            | trace_state
    · cases hy0 : decide (y0 = 0) with
      | true =>
        have hy0' := of_decide_eq_true hy0
        cases hf : folL x0 y0 (cutA E0) with
        | true =>
          refine pure_of_H htB_ok tabR5_ok (fuel := 3) (d := 6) [] (fun _ _ h => by cases h) ?_
          repeat' (conv => whnf
                   first | (with_reducible first | exact True.intro | rfl | exact castL_self _ _ | refine iteB_n ?_ | refine iteB_ct ?_ | refine iteB_cf ?_ | refine iteB_bt ?_ | refine iteB_bf ?_ | refine iteB_tb ?_ | refine iteB_fb ?_) | ((with_reducible refine V.same_t ?_); exact rfl) | ((with_reducible refine andB_room ?_ ?_ ?_); (· kernel_rfl); (· (first | omega | (simp only [lens] <;> omega)))) | ((with_reducible first | refine andB_in ?_ ?_ | refine andB_d ?_ ?_ | refine andB_lt ?_ ?_ | refine andB_le ?_ ?_ | refine iteB_ltt ?_ ?_ | refine iteB_let ?_ ?_ | refine iteB_dt ?_ ?_); · (first | (with_reducible assumption) | (first | omega | (simp only [lens] <;> omega)))) | ((with_reducible first | refine iteB_ltf ?_ ?_ | refine iteB_lef ?_ ?_ | refine iteB_df ?_ ?_); · (first | (with_reducible assumption) | (first | omega | (simp only [lens] <;> omega)))) | ((with_reducible first | refine andB_i ?_ ?_ | refine iteB_t ?_ ?_); · (first | (with_reducible first | assumption | exact decide_eq_true rfl | exact sEq_self _) | ((with_reducible refine eqOK_i ?_); kernel_rfl) | (first | (rw [hx0, hy0]; rfl) | exact hf))) | ((with_reducible refine iteB_f ?_ ?_); · (first | (with_reducible first | assumption | exact decide_eq_true rfl | exact sEq_self _) | ((with_reducible refine eqOK_i ?_); kernel_rfl) | (first | (rw [hx0, hy0]; rfl) | exact hf))) | (with_reducible first | refine andB_in ?_ ?_ | refine andB_lt ?_ ?_ | refine andB_le ?_ ?_ | refine andB_d ?_ ?_ | refine andB_i ?_ ?_ | refine iteB_lts (fun hB => ?_) (fun hB => ?_) | refine iteB_les (fun hB => ?_) (fun hB => ?_) | refine iteB_ds (fun hB => ?_) (fun hB => ?_) | refine iteB_s (fun hB => ?_) (fun hB => ?_) | refine CD.wk_as ?_ | refine And.intro ?_ ?_))
          all_goals ((conv => whnf); (try dsimp only); (try simp only [Nat.succ_eq_add_one, Nat.le_eq, castL_self]); (try omega))
          all_goals (try (first | omega | (simp only [lens] <;> omega)))
          all_goals first
            | rfl
            | exact hel
            | trace_state
        | false =>
          refine pure_of_H htB_ok tabR5_ok (fuel := 3) (d := 6) [] (fun _ _ h => by cases h) ?_
          repeat' (conv => whnf
                   first | (with_reducible first | exact True.intro | rfl | exact castL_self _ _ | refine iteB_n ?_ | refine iteB_ct ?_ | refine iteB_cf ?_ | refine iteB_bt ?_ | refine iteB_bf ?_ | refine iteB_tb ?_ | refine iteB_fb ?_) | ((with_reducible refine V.same_t ?_); exact rfl) | ((with_reducible refine andB_room ?_ ?_ ?_); (· kernel_rfl); (· (first | omega | (simp only [lens] <;> omega)))) | ((with_reducible first | refine andB_in ?_ ?_ | refine andB_d ?_ ?_ | refine andB_lt ?_ ?_ | refine andB_le ?_ ?_ | refine iteB_ltt ?_ ?_ | refine iteB_let ?_ ?_ | refine iteB_dt ?_ ?_); · (first | (with_reducible assumption) | (first | omega | (simp only [lens] <;> omega)))) | ((with_reducible first | refine iteB_ltf ?_ ?_ | refine iteB_lef ?_ ?_ | refine iteB_df ?_ ?_); · (first | (with_reducible assumption) | (first | omega | (simp only [lens] <;> omega)))) | ((with_reducible first | refine andB_i ?_ ?_ | refine iteB_t ?_ ?_); · (first | (with_reducible first | assumption | exact decide_eq_true rfl | exact sEq_self _) | ((with_reducible refine eqOK_i ?_); kernel_rfl) | (first | (rw [hx0, hy0]; rfl) | exact hf))) | ((with_reducible refine iteB_f ?_ ?_); · (first | (with_reducible first | assumption | exact decide_eq_true rfl | exact sEq_self _) | ((with_reducible refine eqOK_i ?_); kernel_rfl) | (first | (rw [hx0, hy0]; rfl) | exact hf))) | (with_reducible first | refine andB_in ?_ ?_ | refine andB_lt ?_ ?_ | refine andB_le ?_ ?_ | refine andB_d ?_ ?_ | refine andB_i ?_ ?_ | refine iteB_lts (fun hB => ?_) (fun hB => ?_) | refine iteB_les (fun hB => ?_) (fun hB => ?_) | refine iteB_ds (fun hB => ?_) (fun hB => ?_) | refine iteB_s (fun hB => ?_) (fun hB => ?_) | refine CD.wk_as ?_ | refine And.intro ?_ ?_))
          all_goals ((conv => whnf); (try dsimp only); (try simp only [Nat.succ_eq_add_one, Nat.le_eq, castL_self]); (try omega))
          all_goals (try (first | omega | (simp only [lens] <;> omega)))
          all_goals first
            | rfl
            | exact hel
            | trace_state
      | false =>
        have hy0' := of_decide_eq_false hy0
        cases hf : folL x0 y0 (cutA E0) with
        | false =>
          refine pure_of_H htB_ok tabR5_ok (fuel := 3) (d := 6) [] (fun _ _ h => by cases h) ?_
          repeat' (conv => whnf
                   first | (with_reducible first | exact True.intro | rfl | exact castL_self _ _ | refine iteB_n ?_ | refine iteB_ct ?_ | refine iteB_cf ?_ | refine iteB_bt ?_ | refine iteB_bf ?_ | refine iteB_tb ?_ | refine iteB_fb ?_) | ((with_reducible refine V.same_t ?_); exact rfl) | ((with_reducible refine andB_room ?_ ?_ ?_); (· kernel_rfl); (· (first | omega | (simp only [lens] <;> omega)))) | ((with_reducible first | refine andB_in ?_ ?_ | refine andB_d ?_ ?_ | refine andB_lt ?_ ?_ | refine andB_le ?_ ?_ | refine iteB_ltt ?_ ?_ | refine iteB_let ?_ ?_ | refine iteB_dt ?_ ?_); · (first | (with_reducible assumption) | (first | omega | (simp only [lens] <;> omega)))) | ((with_reducible first | refine iteB_ltf ?_ ?_ | refine iteB_lef ?_ ?_ | refine iteB_df ?_ ?_); · (first | (with_reducible assumption) | (first | omega | (simp only [lens] <;> omega)))) | ((with_reducible first | refine andB_i ?_ ?_ | refine iteB_t ?_ ?_); · (first | (with_reducible first | assumption | exact decide_eq_true rfl | exact sEq_self _) | ((with_reducible refine eqOK_i ?_); kernel_rfl) | (first | (rw [hx0, hy0]; rfl) | exact hf))) | ((with_reducible refine iteB_f ?_ ?_); · (first | (with_reducible first | assumption | exact decide_eq_true rfl | exact sEq_self _) | ((with_reducible refine eqOK_i ?_); kernel_rfl) | (first | (rw [hx0, hy0]; rfl) | exact hf))) | (with_reducible first | refine andB_in ?_ ?_ | refine andB_lt ?_ ?_ | refine andB_le ?_ ?_ | refine andB_d ?_ ?_ | refine andB_i ?_ ?_ | refine iteB_lts (fun hB => ?_) (fun hB => ?_) | refine iteB_les (fun hB => ?_) (fun hB => ?_) | refine iteB_ds (fun hB => ?_) (fun hB => ?_) | refine iteB_s (fun hB => ?_) (fun hB => ?_) | refine CD.wk_as ?_ | refine And.intro ?_ ?_))
          all_goals ((conv => whnf); (try dsimp only); (try simp only [Nat.succ_eq_add_one, Nat.le_eq, castL_self]); (try omega))
          all_goals (try (first | omega | (simp only [lens] <;> omega)))
          all_goals first
            | rfl
            | exact hel
            | trace_state
        | true =>
          have hx40 : 0 ≤ x0 ∧ x0 ≤ 1099511627776 := ⟨a2.1, by omega⟩
          have hs : LogOK x0 y0 (cutA E0) := ⟨hx40, a3, by omega, fol_run hf (by omega), fol_top hf (by omega), fun j hj => (hco j hj).1⟩
          obtain ⟨g1, g2⟩ := pl_ok (s := (x0, y0, cutA E0)) hacts hs hcl (min acts.length 40) (Nat.min_le_left _ _) (Nat.min_le_right _ _)
          rw [← plI_eq, ← plT_eq, ← plL_eq] at g1
          have n0 : plI acts (x0, y0, cutA E0) 0 = x0 := plI_eq _ _ _
          have n1 : plT acts (x0, y0, cutA E0) 0 = y0 := plT_eq _ _ _
          have n2 : plL acts (x0, y0, cutA E0) 0 = cutA E0 := plL_eq _ _ _
          refine pure_of_H htB_ok tabR5_ok (fuel := 3) (d := 6) [⟨6, [(0, 1), (1, 3), (2, 2)], plC acts (x0, y0, cutA E0) asks 0, .leaf (.exit 0) (plC acts (x0, y0, cutA E0) asks (min acts.length 40))⟩, ⟨11, [(0, 0), (1, 1), (2, 2)], pkC asks (plI acts (x0, y0, cutA E0) (min acts.length 40)) (plT acts (x0, y0, cutA E0) (min acts.length 40)) (plL acts (x0, y0, cutA E0) (min acts.length 40)) 0, .leaf (.exit 2) (pkC asks (plI acts (x0, y0, cutA E0) (min acts.length 40)) (plT acts (x0, y0, cutA E0) (min acts.length 40)) (plL acts (x0, y0, cutA E0) (min acts.length 40)) (min (asks.length - 1) 10))⟩] (fun N l hl' => ?_) ?_
          · rcases List.mem_cons.1 hl' with rfl | hl'
            · exact pl_loop acts _ asks hl hacts hs hcl N
            · rw [List.mem_singleton.1 hl']
              exact pk_loop asks _ _ _ g1 hl2 hw N
          · repeat' (conv => whnf
                     first | (with_reducible first | exact True.intro | rfl | exact castL_self _ _ | refine iteB_n ?_ | refine iteB_ct ?_ | refine iteB_cf ?_ | refine iteB_bt ?_ | refine iteB_bf ?_ | refine iteB_tb ?_ | refine iteB_fb ?_) | ((with_reducible refine V.same_t ?_); exact rfl) | ((with_reducible refine andB_room ?_ ?_ ?_); (· kernel_rfl); (· (first | omega | (simp only [lens] <;> omega)))) | ((with_reducible first | refine andB_in ?_ ?_ | refine andB_d ?_ ?_ | refine andB_lt ?_ ?_ | refine andB_le ?_ ?_ | refine iteB_ltt ?_ ?_ | refine iteB_let ?_ ?_ | refine iteB_dt ?_ ?_); · (first | (with_reducible assumption) | (first | omega | (simp only [lens] <;> omega)))) | ((with_reducible first | refine iteB_ltf ?_ ?_ | refine iteB_lef ?_ ?_ | refine iteB_df ?_ ?_); · (first | (with_reducible assumption) | (first | omega | (simp only [lens] <;> omega)))) | ((with_reducible first | refine andB_i ?_ ?_ | refine iteB_t ?_ ?_); · (first | (with_reducible first | assumption | exact decide_eq_true rfl | exact sEq_self _) | ((with_reducible refine eqOK_i ?_); kernel_rfl) | (first | (rw [hx0, hy0]; rfl) | exact hf))) | ((with_reducible refine iteB_f ?_ ?_); · (first | (with_reducible first | assumption | exact decide_eq_true rfl | exact sEq_self _) | ((with_reducible refine eqOK_i ?_); kernel_rfl) | (first | (rw [hx0, hy0]; rfl) | exact hf))) | (with_reducible first | refine andB_in ?_ ?_ | refine andB_lt ?_ ?_ | refine andB_le ?_ ?_ | refine andB_d ?_ ?_ | refine andB_i ?_ ?_ | refine iteB_lts (fun hB => ?_) (fun hB => ?_) | refine iteB_les (fun hB => ?_) (fun hB => ?_) | refine iteB_ds (fun hB => ?_) (fun hB => ?_) | refine iteB_s (fun hB => ?_) (fun hB => ?_) | refine CD.wk_as ?_ | refine And.intro ?_ ?_))
            all_goals ((conv => whnf); (try dsimp only); (try simp only [Nat.succ_eq_add_one, Nat.le_eq, castL_self]); (try omega))
            all_goals (try (first | omega | (simp only [lens] <;> omega)))
            all_goals first
              | exact hel
              | exact n0.symm
              | exact n1.symm
              | exact n2.symm
              | exact congrArg List.length n2.symm
              | exact Nat.le_of_eq (congrArg List.length n2)
              | omega
              | trace_state
end Go.Proofs.Ytlkbmjdgfbciaaa
end

section
namespace Go.Sym
open Go.ChangeShapes Go.WideShapes

def kLo : IntKind → Int
  | .i8 => -128
  | .i16 => -32768
  | .i32 => -2147483648
  | .i64 => -9223372036854775808
  | _ => 0
def kHi : IntKind → Int
  | .i8 => 128
  | .i16 => 32768
  | .i32 => 2147483648
  | .i64 => 9223372036854775808
  | .u8 => 256
  | .u16 => 65536
  | .u32 => 4294967296
  | .u64 => 18446744073709551616
mutual
def wfT : (t : Ty) → t.den → Prop
  | .int k, n => (fun n : Int => kLo k ≤ n ∧ n < kHi k) n
  | .bool, _ => True
  | .str, s => ByteArray.size s ≤ 9223372036854775807
  | .lst e, L => List.length (α := rowDen e) L ≤ 9223372036854775807 ∧ ∀ i, i < List.length (α := rowDen e) L → wfR e (rowAt e L i)
def wfR : (e : List Ty) → rowDen e → Prop
  | [], _ => True
  | [t], x => wfT t x
  | t :: u :: ts, x => wfT t x.1 ∧ wfR (u :: ts) x.2
end
def repT (r : List Ty) : Nat → List Ty
  | 0 => []
  | n + 1 => r ++ repT r n
noncomputable section
variable (P : Program)
def layF (f : TypeId → Option (List Ty)) : Nat → List Field → Option (List Ty)
  | _, [] => some []
  | off, fd :: l => match f fd.type with
    | some a => bif Nat.beq fd.offset off && Nat.beq (P.cellsOf fd.type) a.length then (match layF f (off + a.length) l with
      | some b => some (a ++ b)
      | none => none) else none
    | none => none
def layE : Nat → TypeId → Option (List Ty)
  | 0, _ => none
  | n + 1, t => match P.underlying t with
    | some (.int k) => some [.int k]
    | some .bool => some [.bool]
    | some .string => some [.str]
    | some (.slice e) => match layE n e with
      | some r => bif Nat.beq (P.cellsOf e) r.length && Nat.blt 0 r.length then some [.lst r] else none
      | none => none
    | some (.struct fs) => match layF P (layE n) 0 fs.toList with
      | some e => bif Nat.beq (P.cellsOf t) e.length then some e else none
      | none => none
    | some (.array m el) => match layE n el with
      | some r => bif Nat.beq (P.cellsOf el) r.length && Nat.beq (P.cellsOf t) (repT r m).length then some (repT r m) else none
      | none => none
    | _ => none
end

theorem addr_addN (b o j : Nat) : (⟨b, o, none⟩ : Addr).add j = ⟨b, o + j, none⟩ := by
  unfold Addr.add
  split
  · rename_i h; subst h; rfl
  · rfl
theorem wfR_nil (x : rowDen []) : wfR [] x := by rw [wfR]; trivial
theorem wfR_one {t : Ty} (x : rowDen [t]) (h : wfT t x) : wfR [t] x := by rw [wfR]; exact h
theorem wfR_cons {t u : Ty} {ts : List Ty} (x : rowDen (t :: u :: ts)) (h1 : wfT t x.1) (h2 : wfR (u :: ts) x.2) : wfR (t :: u :: ts) x := by rw [wfR]; exact ⟨h1, h2⟩
theorem of_wfR_one {t : Ty} (x : rowDen [t]) (h : wfR [t] x) : wfT t x := by rw [wfR] at h; exact h
theorem of_CRel_one {φ : Nat → Nat → Option Value} {t : Ty} (x : rowDen [t]) {C : Nat → Option Value} (h : CRel φ [t] x C) : ∃ X, C 0 = some X ∧ TRel φ t x X := by rw [CRel] at h; exact h
theorem wfT_int {k : IntKind} {n : (Ty.int k).den} (h : (fun n : Int => kLo k ≤ n ∧ n < kHi k) n) : wfT (.int k) n := by rw [wfT]; exact h
theorem wfT_bool (b : Ty.bool.den) : wfT .bool b := by rw [wfT]; trivial
theorem wfT_str {s : Ty.str.den} (h : ByteArray.size s ≤ 9223372036854775807) : wfT .str s := by rw [wfT]; exact h
theorem wfT_lst {e : List Ty} (L : (Ty.lst e).den) (h : List.length (α := rowDen e) L ≤ 9223372036854775807) (h2 : ∀ i, i < List.length (α := rowDen e) L → wfR e (rowAt e L i)) : wfT (.lst e) L := by rw [wfT]; exact ⟨h, h2⟩
theorem crel_app {φ : Nat → Nat → Option Value} : ∀ (e1 e2 : List Ty) (C : Nat → Option Value), (∃ x, wfR e1 x ∧ CRel φ e1 x C) → (∃ x, wfR e2 x ∧ CRel φ e2 x (fun j => C (e1.length + j))) → ∃ x, wfR (e1 ++ e2) x ∧ CRel φ (e1 ++ e2) x C
  | [], e2, C, _, h2 => by
    obtain ⟨x, h3, h4⟩ := h2
    refine ⟨x, h3, ?_⟩
    have : (fun j => C (([] : List Ty).length + j)) = C := by funext j; rw [List.length_nil, Nat.zero_add]
    rw [this] at h4
    exact h4
  | [t], [], C, h1, _ => h1
  | [t], u :: us, C, ⟨x, h3, h4⟩, ⟨y, h5, h6⟩ => by
    have : (fun j => C ([t].length + j)) = fun j => C (j + 1) := by funext j; rw [List.length_singleton, Nat.add_comm]
    rw [this] at h6
    exact ⟨(x, y), wfR_cons (t := t) (u := u) (ts := us) (x, y) (of_wfR_one x h3) h5, CRel_cons (t := t) (u := u) (ts := us) (x, y) (of_CRel_one x h4) h6⟩
  | t :: u :: us, e2, C, ⟨x, h3, h4⟩, h2 => by
    rw [wfR] at h3
    rw [CRel] at h4
    obtain ⟨y, h5, h6⟩ := crel_app (u :: us) e2 (fun j => C (j + 1)) ⟨x.2, h3.2, h4.2⟩ (by
      obtain ⟨z, h7, h8⟩ := h2
      refine ⟨z, h7, ?_⟩
      have : (fun j => C ((t :: u :: us).length + j)) = fun j => C ((u :: us).length + j + 1) := by funext j; congr 1; simp only [List.length_cons]; omega
      rw [this] at h8
      exact h8)
    exact ⟨(x.1, y), wfR_cons (t := t) (u := u) (ts := us ++ e2) (x.1, y) h3.1 h5, CRel_cons (t := t) (u := u) (ts := us ++ e2) (x.1, y) h4.1 h6⟩

section
variable {H : Type} {enc : TypeId × Value → H} {P : Program} {w : World} {base : Nat} {spare : Nat → Bool} {held : Bool}
abbrev φW (w : World) : Nat → Nat → Option Value := fun B k => w.cell? ⟨B, k, none⟩
def LayOK (enc : TypeId × Value → H) (P : Program) (w : World) (base : Nat) (spare : Nat → Bool) (held : Bool) (f : TypeId → Option (List Ty)) : Prop :=
  ∀ t e, f t = some e → ∀ fuel cs x, DataW.trod enc P w base spare held fuel t cs = some x → cs.length = e.length ∧ ∃ r, wfR e r ∧ CRel (φW w) e r (fun j => cs[j]?)
theorem layF_ok {f : TypeId → Option (List Ty)} (hf : LayOK enc P w base spare held f) {n : Nat} {cs : List Value} : ∀ (l : List Field) (off : Nat) (e : List Ty), layF P f off l = some e → off + e.length ≤ cs.length →
    (∀ (i : Nat) (fd : Field), l[i]? = some fd → ∃ y, DataW.trod enc P w base spare held n fd.type ((cs.drop fd.offset).take (P.cellsOf fd.type)) = some y) →
    ∃ r, wfR e r ∧ CRel (φW w) e r (fun j => cs[off + j]?)
  | [], off, e, h, _, _ => by
    cases h
    exact ⟨(), wfR_nil (), CRel_nil () _⟩
  | fd :: l, off, e, h, hle, ht => by
    rw [layF] at h
    split at h
    · rename_i a ha
      cases hb : (Nat.beq fd.offset off && Nat.beq (P.cellsOf fd.type) a.length) with
      | false => rw [hb] at h; cases h
      | true =>
        rw [hb, cond_true] at h
        rw [Bool.and_eq_true, Nat.beq_eq, Nat.beq_eq] at hb
        split at h
        · rename_i b hbb
          cases h
          rw [List.length_append] at hle
          obtain ⟨y, hy⟩ := ht 0 fd rfl
          obtain ⟨h1, r, h2, h3⟩ := hf _ _ ha _ _ _ hy
          refine crel_app a b _ ⟨r, h2, ?_⟩ ?_
          · refine CRel.mono (fun _ _ _ h => h) a r (fun j v hj => ?_) h3
            rw [List.getElem?_take] at hj
            split at hj
            · rw [List.getElem?_drop, hb.1] at hj; exact hj
            · cases hj
          · obtain ⟨r', h4, h5⟩ := layF_ok hf l (off + a.length) b hbb (by omega) fun i fd' hi => ht (i + 1) fd' (by simpa using hi)
            exact ⟨r', h4, CRel.mono (fun _ _ _ h => h) b r' (fun j v hj => by rw [← Nat.add_assoc]; exact hj) h5⟩
        · cases h
    · cases h
theorem layA_ok {f : TypeId → Option (List Ty)} (hf : LayOK enc P w base spare held f) {m : Nat} {cs : List Value} {el : TypeId} {r : List Ty} (hr : f el = some r) (hb : P.cellsOf el = r.length) : ∀ (n off : Nat), off + (repT r n).length ≤ cs.length →
    (∀ i, i < n → ∃ y, DataW.trod enc P w base spare held m el ((cs.drop (off + i * r.length)).take r.length) = some y) →
    ∃ x, wfR (repT r n) x ∧ CRel (φW w) (repT r n) x (fun j => cs[off + j]?)
  | 0, off, _, _ => ⟨(), wfR_nil (), CRel_nil () _⟩
  | n + 1, off, hle, ht => by
    have hle' : off + (r.length + (repT r n).length) ≤ cs.length := by rw [repT, List.length_append] at hle; exact hle
    obtain ⟨y, hy⟩ := ht 0 (Nat.zero_lt_succ _)
    rw [Nat.zero_mul, Nat.add_zero] at hy
    obtain ⟨h1, x, h2, h3⟩ := hf _ _ hr _ _ _ hy
    refine crel_app r (repT r n) _ ⟨x, h2, ?_⟩ ?_
    · refine CRel.mono (fun _ _ _ h => h) r x (fun j v hj => ?_) h3
      rw [List.getElem?_take] at hj
      split at hj
      · rw [List.getElem?_drop] at hj; exact hj
      · cases hj
    · obtain ⟨x', h4, h5⟩ := layA_ok (cs := cs) (m := m) hf hr hb n (off + r.length) (by rw [Nat.add_assoc]; exact hle') fun i hi => by
        obtain ⟨y, hy⟩ := ht (i + 1) (by omega)
        rw [Nat.succ_mul, Nat.add_comm (i * r.length), ← Nat.add_assoc] at hy
        exact ⟨y, hy⟩
      exact ⟨x', h4, CRel.mono (fun _ _ _ h => h) _ x' (fun j v hj => by rw [← Nat.add_assoc]; exact hj) h5⟩
theorem lay_ok : ∀ n : Nat, LayOK enc P w base spare held (layE P n)
  | 0 => fun t e h => by cases h
  | n + 1 => fun t e h fuel cs x hx => by
    have ih := lay_ok n
    rw [layE] at h
    split at h
    · rename_i k hu
      cases h
      obtain ⟨q, rfl, _, hw⟩ := DataW.trod_int hu hx
      refine ⟨rfl, q, wfR_one (t := .int k) q (wfT_int ?_), CRel_one (t := .int k) q rfl (TRel_int k q)⟩
      cases k <;> simp [Lit.wf, IntKind.min, IntKind.max, IntKind.signed, IntKind.bits, kLo, kHi] at hw ⊢ <;> omega
    · rename_i hu
      cases h
      obtain ⟨q, rfl, _⟩ := DataW.trod_bool hu hx
      exact ⟨rfl, q, wfR_one (t := .bool) q (wfT_bool q), CRel_one (t := .bool) q rfl (TRel_bool q)⟩
    · rename_i hu
      cases h
      obtain ⟨q, rfl, _, hw⟩ := DataW.trod_string hu hx
      unfold maxLen at hw
      exact ⟨rfl, q, wfR_one (t := .str) q (wfT_str (by omega)), CRel_one (t := .str) q rfl (TRel_str q)⟩
    · rename_i el hu
      split at h
      · rename_i r hr
        cases hb : (Nat.beq (P.cellsOf el) r.length && Nat.blt 0 r.length) with
        | false => rw [hb] at h; cases h
        | true =>
          rw [hb, cond_true] at h
          rw [Bool.and_eq_true, Nat.beq_eq, blt_iff, decide_eq_true_eq] at hb
          obtain ⟨hb, hz⟩ := hb
          cases h
          rcases Go.Deep.open_slice hu hx with ⟨rfl, _⟩ | ⟨a, len, cap, m, n', D, Pl, rfl, _, hl, hm, hmm, rfl, hc⟩
          · exact ⟨rfl, ([] : List (rowDen r)), wfR_one (t := .lst r) ([] : List (rowDen r)) (wfT_lst (e := r) ([] : List (rowDen r)) (Nat.zero_le _) fun i hi => absurd hi (Nat.not_lt_zero _)),
              CRel_one (t := .lst r) ([] : List (rowDen r)) rfl (TRel_lstU (e := r) ([] : List (rowDen r)) (Nat.le_refl _) (fun _ => rfl) fun h => absurd h (Nat.lt_irrefl _))⟩
          · have hlm : len ≤ m := by subst hmm; split <;> omega
            have hr1 : ∀ i, i < len → ∃ y, wfR r y ∧ CRel (φW w) r y (fun j => w.cell? (a.add (i * r.length + j))) ∧ (i = 0 → a.spot = none) := by
              intro i hi
              obtain ⟨cs', h1, h2⟩ := hc i (by omega)
              obtain ⟨h3, y, h4, h5⟩ := ih _ _ hr _ _ _ h2
              obtain ⟨_, h6, h7⟩ := World.cells?_some h1
              refine ⟨y, h4, CRel.mono (fun _ _ _ h => h) r y (fun j v hj => ?_) h5, fun h0 => ?_⟩
              · have hlt : j < cs'.length := (List.getElem?_eq_some_iff.1 hj).1
                have := h7 j (by omega)
                rw [hb, Go.Deep.add_add] at this
                rw [this]; exact hj
              · subst h0
                have := h7 0 (by omega)
                rw [List.getElem?_eq_getElem (by omega), Nat.zero_mul] at this
                exact World.cell?_spot this
            have : Inhabited (rowDen r) := ⟨rowDflt r⟩
            obtain ⟨g, hg⟩ := Go.Deep.choose_lt hr1
            have hat : ∀ i, i < len → rowAt r ((List.range len).map g) i = g i := fun i hi => by
              unfold rowAt
              simp [List.getD_eq_getElem?_getD, hi]
            have hlen : ((List.range len).map g).length = len := by simp
            refine ⟨rfl, (List.range len).map g, wfR_one (t := .lst r) _ (wfT_lst _ ?_ fun i hi => ?_), CRel_one (t := .lst r) _ (X := .slice (some a) len cap) rfl ?_⟩
            · rw [hlen]; unfold maxLen at hm; omega
            · rw [hlen] at hi
              rw [hat i hi]
              exact (hg i hi).1
            · have ht := TRel_lstU (e := r) (φ := φW w) ((List.range len).map g) (a := some a) (c := cap) (by rw [hlen]; exact hl) (fun h => (by cases h)) (fun h0 => ?_)
              · rw [hlen] at ht; exact ht
              rw [hlen] at h0 ⊢
              have hsp := (hg 0 h0).2.2 rfl
              refine ⟨a.block, a.off, by cases a; simp only at hsp; rw [hsp], fun i hi => ?_⟩
              rw [hat i hi]
              refine CRel.mono (fun _ _ _ h => h) r _ (fun j v hj => ?_) (hg i hi).2.1
              have e : a = ⟨a.block, a.off, none⟩ := by cases a; simp only at hsp; rw [hsp]
              rw [e, addr_addN] at hj
              rw [Nat.add_assoc]
              exact hj
      · cases h
    · rename_i fs hu
      split at h
      · rename_i e' he
        cases hb : Nat.beq (P.cellsOf t) e'.length with
        | false => rw [hb] at h; cases h
        | true =>
          rw [hb, cond_true] at h
          cases h
          have hb := Nat.eq_of_beq_eq_true hb
          obtain ⟨xs, m, _, _, hl, hlen, hf⟩ := DataW.trod_struct hu hx
          refine ⟨by omega, ?_⟩
          obtain ⟨r, h1, h2⟩ := layF_ok ih (n := m) (cs := cs) fs.toList 0 e he (by omega) fun i fd hi => by
            have hi : fs[i]? = some fd := by simpa using hi
            exact ⟨_, (hf i fd hi).trans (List.getElem?_eq_getElem (by have := (Array.getElem?_eq_some_iff.1 hi).1; omega))⟩
          exact ⟨r, h1, CRel.mono (fun _ _ _ h => h) e r (fun j v hj => by rwa [Nat.zero_add] at hj) h2⟩
      · cases h
    · rename_i m el hu
      split at h
      · rename_i r hr
        cases hb : (Nat.beq (P.cellsOf el) r.length && Nat.beq (P.cellsOf t) (repT r m).length) with
        | false => rw [hb] at h; cases h
        | true =>
          rw [hb, cond_true] at h
          rw [Bool.and_eq_true, Nat.beq_eq, Nat.beq_eq] at hb
          cases h
          obtain ⟨xs, m', _, _, hl, hlen, hf⟩ := DataW.trod_array hu hx
          refine ⟨by omega, ?_⟩
          obtain ⟨y, h1, h2⟩ := layA_ok ih (m := m') (cs := cs) hr hb.1 m 0 (by omega) fun i hi => by
            have := hf i hi
            rw [hb.1] at this
            rw [Nat.zero_add]
            exact ⟨_, this.trans (List.getElem?_eq_getElem (by omega))⟩
          exact ⟨y, h1, CRel.mono (fun _ _ _ h => h) _ y (fun j v hj => by rwa [Nat.zero_add] at hj) h2⟩
      · cases h
    · cases h

theorem crel_rowV {φ : Nat → Nat → Option Value} : ∀ (e : List Ty) (x : rowDen e) (A : List Value), A.length = e.length → CRel φ e x (fun j => A[j]?) → LRel (envφ φ) (rowV e x) A
  | [], _, A, h, _ => by cases A <;> simp at h; exact rfl
  | [t], x, A, h, hc => by
    match A, h with
    | [a], _ =>
      rw [CRel] at hc
      obtain ⟨X, h1, h2⟩ := hc
      cases h1
      exact ⟨a, [], rfl, toV_rel t x a h2, rfl⟩
  | t :: u :: ts, x, A, h, hc => by
    match A, h with
    | a :: A, h =>
      rw [CRel] at hc
      obtain ⟨⟨X, h1, h2⟩, h3⟩ := hc
      cases h1
      exact ⟨a, A, rfl, toV_rel t x.1 a h2, crel_rowV (u :: ts) x.2 A (by simpa using h) h3⟩
where
  toV_rel (t : Ty) (x : t.den) (a : Value) (h : TRel φ t x a) : VRel (envφ φ) (toV t x) a := by
    cases t with
    | int k => rw [TRel] at h; simp only [toV, VRel]; exact h
    | bool => rw [TRel] at h; simp only [toV, VRel]; exact h
    | str => rw [TRel] at h; simp only [toV, VRel]; exact h
    | lst e =>
      rw [TRel] at h
      simp only [toV, VRel]
      obtain ⟨a', c, h1, h2, h3, h4⟩ := h
      refine ⟨a', c, h1, h2, fun h => (by cases h), h3, fun hp => ?_⟩
      obtain ⟨B, o, h5, h6⟩ := h4 hp
      refine ⟨B, o, h5, fun i hi => ?_⟩
      refine CRel.mono (fun _ _ _ h => h) e _ (fun j v hj => ?_) (h6 i hi)
      show φ B (o + (i * e.length + j)) = some v
      rw [← Nat.add_assoc]
      exact hj
theorem arg_struct {n : Nat} {t : TypeId} {e : List Ty} {fs : Array Field} {v : Value} {d : DataW H} {p : List MemPlace} {r : Go.Reach} {b0 : Nat} {W : World} (hu : P.underlying t = some (.struct fs)) (hl : layE P n t = some e)
    (k : Value.okWide P W r b0 t v) (h : DataW.Trod enc P w base spare held t v d p) : ∃ x : rowDen e, wfR e x ∧ VRel (envφ (φW w)) (.agg (rowV e x)) v := by
  obtain ⟨A, rfl, hA⟩ := okWide_struct hu k
  obtain ⟨fuel, hf⟩ := h
  have hf' : DataW.trod enc P w base spare held fuel t A.toList = some (d, p) := by simpa [Value.cells] using hf
  obtain ⟨h1, x, h2, h3⟩ := lay_ok n t e hl _ _ _ hf'
  exact ⟨x, h2, by simp only [VRel]; exact ⟨A, rfl, crel_rowV e x _ h1 h3⟩⟩
theorem okWide_array {n : Nat} {e t : TypeId} {v : Value} {r : Go.Reach} {b0 : Nat} {W : World} (ht : P.underlying t = some (.array n e)) (h : Value.okWide P W r b0 t v) : ∃ cs, v = .agg cs ∧ cs.size = P.cellsOf t := by
  simp only [Value.okWide, ht] at h
  obtain ⟨cs, h1, h2, _⟩ := h
  exact ⟨cs, h1, h2⟩
theorem arg_array {n m : Nat} {t el : TypeId} {e : List Ty} {v : Value} {d : DataW H} {p : List MemPlace} {r : Go.Reach} {b0 : Nat} {W : World} (hu : P.underlying t = some (.array m el)) (hl : layE P n t = some e)
    (k : Value.okWide P W r b0 t v) (h : DataW.Trod enc P w base spare held t v d p) : ∃ x : rowDen e, wfR e x ∧ VRel (envφ (φW w)) (.agg (rowV e x)) v := by
  obtain ⟨A, rfl, hA⟩ := okWide_array hu k
  obtain ⟨fuel, hf⟩ := h
  have hf' : DataW.trod enc P w base spare held fuel t A.toList = some (d, p) := by simpa [Value.cells] using hf
  obtain ⟨h1, x, h2, h3⟩ := lay_ok n t e hl _ _ _ hf'
  exact ⟨x, h2, by simp only [VRel]; exact ⟨A, rfl, crel_rowV e x _ h1 h3⟩⟩
theorem arg_one {n : Nat} {t : TypeId} {t0 : Ty} {v : Value} {d : DataW H} {p : List MemPlace} (hl : layE P n t = some [t0]) (hc : v.cells = #[v])
    (h : DataW.Trod enc P w base spare held t v d p) : ∃ x : t0.den, wfT t0 x ∧ VRel (envφ (φW w)) (toV t0 x) v := by
  obtain ⟨fuel, hf⟩ := h
  rw [hc] at hf
  obtain ⟨h1, x, h2, h3⟩ := lay_ok n t [t0] hl _ _ _ hf
  rw [wfR] at h2
  rw [CRel] at h3
  obtain ⟨X, h4, h5⟩ := h3
  cases h4
  exact ⟨x, h2, crel_rowV.toV_rel t0 x v h5⟩
theorem arg_slice {n : Nat} {t el : TypeId} {e : List Ty} {v : Value} {d : DataW H} {p : List MemPlace} {r : Go.Reach} {b0 : Nat} {W : World} (hu : P.underlying t = some (.slice el)) (hl : layE P n t = some [.lst e]) (k : Value.okWide P W r b0 t v)
    (h : DataW.Trod enc P w base spare held t v d p) : ∃ L : List (rowDen e), wfT (.lst e) L ∧ VRel (envφ (φW w)) (.lst e L false) v := by
  obtain ⟨a, len, cap, rfl⟩ := okWide_slice hu k
  exact arg_one (t0 := .lst e) hl rfl h
theorem arg_str {n : Nat} {t : TypeId} {v : Value} {d : DataW H} {p : List MemPlace} {r : Go.Reach} {b0 : Nat} {W : World} (hu : P.underlying t = some .string) (hl : layE P n t = some [.str]) (k : Value.okWide P W r b0 t v)
    (h : DataW.Trod enc P w base spare held t v d p) : ∃ s : ByteArray, s.size ≤ 9223372036854775807 ∧ VRel (envφ (φW w)) (.str s) v := by
  obtain ⟨s, rfl⟩ := okWide_string hu k
  obtain ⟨x, h1, h2⟩ := arg_one (t0 := .str) hl rfl h
  rw [wfT] at h1
  exact ⟨x, h1, h2⟩
theorem arg_int {n : Nat} {t : TypeId} {kd : IntKind} {v : Value} {d : DataW H} {p : List MemPlace} {r : Go.Reach} {b0 : Nat} {W : World} (hu : P.underlying t = some (.int kd)) (hl : layE P n t = some [.int kd]) (k : Value.okWide P W r b0 t v)
    (h : DataW.Trod enc P w base spare held t v d p) : ∃ q : Int, (kLo kd ≤ q ∧ q < kHi kd) ∧ VRel (envφ (φW w)) (.int kd q) v := by
  obtain ⟨q, rfl⟩ := okWide_int hu k
  obtain ⟨x, h1, h2⟩ := arg_one (t0 := .int kd) hl rfl h
  rw [wfT] at h1
  exact ⟨x, h1, h2⟩
theorem arg_bool {n : Nat} {t : TypeId} {v : Value} {d : DataW H} {p : List MemPlace} {r : Go.Reach} {b0 : Nat} {W : World} (hu : P.underlying t = some .bool) (hl : layE P n t = some [.bool]) (k : Value.okWide P W r b0 t v)
    (h : DataW.Trod enc P w base spare held t v d p) : ∃ q : Bool, VRel (envφ (φW w)) (.bool q) v := by
  obtain ⟨q, rfl⟩ := okWide_bool hu k
  obtain ⟨x, h1, h2⟩ := arg_one (t0 := .bool) hl rfl h
  exact ⟨x, h2⟩
end
end Go.Sym
end

section
namespace Go.Proofs.Ytlkbmjdgfbciaaa
open Go.Sym Go.WideShapes
open Go.RowKit (Below)
set_option maxRecDepth 100000
theorem actOK_of {a : ActR} (h : wfR actE a) : ActOK a := by
  simp only [wfR, wfT] at h
  obtain ⟨h1, h2, h3, h4, h5⟩ := h
  exact ⟨h1, h2, h3, ⟨h4.1, fun j hj => ⟨(h4.2 j hj).1, (h4.2 j hj).2.1⟩⟩, h5⟩
theorem rlogPlays_fin {H : Type} {enc : TypeId × Value → H} {base : Nat} (W : World) (v0 : Value) (v1 : Value) (v2 : Value) {d0 : DataW H} {d1 : DataW H} {d2 : DataW H} {p0 : List MemPlace} {p1 : List MemPlace} {p2 : List MemPlace} (k0 : Value.okWide Try.prog W .any base 68 v0) (k1 : Value.okWide Try.prog W .any base 69 v1) (k2 : Value.okWide Try.prog W .any base 70 v2) (h0 : DataW.Trod enc Try.prog W 0 (fun _ => true) true 68 v0 d0 p0) (h1 : DataW.Trod enc Try.prog W 0 (fun _ => true) true 69 v1 d1 p1) (h2 : DataW.Trod enc Try.prog W 0 (fun _ => true) true 70 v2 d2 p2) (lt0 : ∀ x ∈ p0, x.block < W.heap.size) (lt1 : ∀ x ∈ p1, x.block < W.heap.size) (lt2 : ∀ x ∈ p2, x.block < W.heap.size) :
    Calls Try.prog 7 #[v0, v1, v2] W fun e w' => e = .returned (.bool true) ∧ Below W.heap.size W w' := by
  obtain ⟨a, w0, g0⟩ := arg_struct (n := 8) (e := actE) Try.underlying68 (by kernel_rfl) k0 h0
  obtain ⟨L, w1, g1⟩ := arg_slice (n := 8) (e := actE) Try.underlying69 (by kernel_rfl) k1 h1
  obtain ⟨M, w2, g2⟩ := arg_slice (n := 6) (e := [.int .u64]) Try.underlying70 (by kernel_rfl) k2 h2
  rw [wfT] at w1 w2
  refine pure_true (rlogPlays_at a L M (actOK_of w0) w1.1 (fun i hi => actOK_of (w1.2 i hi)) w2.1 (fun i hi => ?_)) W _ ⟨_, _, rfl, g0, _, _, rfl, g1, _, _, rfl, g2, rfl⟩
  have := w2.2 i hi
  simp only [wfR, wfT] at this
  exact this
end Go.Proofs.Ytlkbmjdgfbciaaa
end

section
namespace Go.Eng
open Go.RowKit Go.ChangeShapes Go.WideShapes

section
variable {H : Type} {enc : TypeId × Value → H} {P : Program} {f : Func} {s : ChangeSpec} {apart fresh handsOn again : Bool} {W W' : World} {args : Array Value} {v : Value} {ds gs : List (DataW H)} {before : List MemPlace}

theorem post_low (hW : DataW.Whole enc P f.params.toList s.vars apart W args.toList ds gs before) (hb : Below W.heap.size W W')
    (pa pv : List MemPlace) (hp : before = pa ++ pv)
    (hr : ∀ (b : Nat) (sp : Nat → Bool) (hd : Bool), DataW.TrodAll enc P W' b sp hd f.resultTypes.toList (v.resultList f.resultTypes.size) (s.fn H (ds ++ gs)).results [])
    (ha : ∀ sp : Nat → Bool, (∀ p ∈ before, sp p.block = true) → DataW.TrodAll enc P W' 0 sp true f.params.toList args.toList (s.fn H (ds ++ gs)).args pa)
    (hv : ∀ sp : Nat → Bool, (∀ p ∈ before, sp p.block = true) → DataW.TrodVars enc P W' sp s.vars (s.fn H (ds ++ gs)).vars pv)
    (hok : ∀ (j : Nat) (t : TypeId) (r : Value), f.resultTypes[j]? = some t → (v.resultList f.resultTypes.size)[j]? = some r → Value.okWide P W' .any 0 t r) :
    s.post enc P f apart fresh handsOn again W args v W' := by
  have low : ∀ p ∈ before, p.block < W.heap.size := fun p h => hW.lt p h
  have seen : ∀ p ∈ before, decide (p.block < W.heap.size) = true := fun p h => decide_eq_true (low p h)
  have kept : W.keptBut W' fun p => p ∈ before ∧ (p ∈ pa ∨ p ∈ pv) :=
    World.keptBut_mono (fun p h => ⟨h, by rw [hp] at h; exact List.mem_append.1 h⟩) (hb.frame (· ∈ before))
  subst hp
  refine ⟨ds, gs, pa ++ pv, [], pa, pv, hW, hr _ _ _, ha (fun b => decide (b < W.heap.size)) seen, hv (fun b => decide (b < W.heap.size)) seen, ?_, fun _ => ⟨hok, ?_⟩⟩
  · exact World.keptBut_mono (fun p h => ⟨h.1, h.2.elim (fun h => .inr (.inl h)) fun h => .inr (.inr h)⟩) kept
  · obtain ⟨_, _, _, _, _, hz, hn⟩ := hW
    have hA := trodAll_append (ha (fun _ => true) fun _ _ => rfl) (hr 0 (fun _ => true) true)
    refine ⟨_, _, pa ++ pv, ⟨pa, pv, by simpa using hA, hv (fun _ => true) fun _ _ => rfl, rfl, fun b off h => ?_, hn⟩, fun p h _ => by simpa using h⟩
    rw [hb.frozen (low _ h)]
    exact hz b off h
end
end Go.Eng
end

section

end
