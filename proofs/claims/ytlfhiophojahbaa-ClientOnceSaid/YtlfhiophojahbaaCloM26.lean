/-
  Texts of this claim, one behind the other: ClOnD ClOnE ClOnF ClOnG ClOnH ClOnI. Each says its own conditions.
-/
import Derived.Test.YtlfhiophojahbaaCloM25

set_option linter.unusedVariables false
set_option linter.unusedSimpArgs false
set_option linter.unusedSectionVars false
section
namespace Go.Proofs.Ytlfhiophojahbaa
open Go.Sym
set_option linter.unusedVariables false
set_option linter.unusedSimpArgs false
set_option maxRecDepth 100000
set_option maxHeartbeats 4000000
section
variable (idn nodes : Int) (l : List (Int × Int × Int)) (n i : Nat)
theorem rd_idlPut (node writes sent : Int) (L : List ClR) (ls' : List LpD) (H : H27 idn nodes l n) (hlt : i < n) (ha : @Eq Int ((Sym.rowAt a3 l (Int.toNat (i : Int))).1 % 5) 0) (hb : ¬ @Eq Int ((Sym.rowAt a3 l (Int.toNat (i : Int))).2.1 % 3) 0) (h : P27 idn nodes l n (i, .idl node writes sent L, [lpP idn nodes l i [(0, 0), (1, 9), (2, 10), (3, 11), (4, 8)] node (writes + 1) sent (L ++ [begR (idn + 1) (writes + 1) (putR ⟨#[118]⟩) ((i : Int) + 1)]) true 0 [] 0])) (h' : P27 idn nodes l n (i + 1, .pnd node (writes + 1) sent (L ++ [begR (idn + 1) (writes + 1) (putR ⟨#[118]⟩) ((i : Int) + 1)]) true 0 [] 0, ls')) : RG idn nodes l n i (.idl node writes sent L) [lpP idn nodes l i [(0, 0), (1, 9), (2, 10), (3, 11), (4, 8)] node (writes + 1) sent (L ++ [begR (idn + 1) (writes + 1) (putR ⟨#[118]⟩) ((i : Int) + 1)]) true 0 [] 0] h := by
  obtain ⟨hn, hn3, hl, hr, hid, hno⟩ := H
  obtain ⟨⟨r1, r2⟩, ⟨r3, r4⟩, r5, r6⟩ := hr i hlt
  have es : ((i : Int) + 1) % 18446744073709551616 = (i : Int) + 1 := Int.emod_eq_of_lt (by omega) (by omega)
  obtain ⟨hi, ⟨v1, v2⟩, ⟨v3, v4⟩, ⟨v5, v6⟩, ⟨v7, v8⟩, v9, v10, v11⟩ := (⟨h.1, h.2.1⟩ : i ≤ n ∧ Inv27 idn nodes i (.idl node writes sent L))
  have ew : (writes + 1) % 18446744073709551616 = writes + 1 := Int.emod_eq_of_lt (by omega) (by omega)
  obtain ⟨dl, edl⟩ : ∃ d : Int, @Eq Int d (Sym.rowAt clC (L ++ [begR (idn + 1) (writes + 1) (putR ⟨#[118]⟩) ((i : Int) + 1)]) (Int.toNat (((L ++ [begR (idn + 1) (writes + 1) (putR ⟨#[118]⟩) ((i : Int) + 1)]).length : Int) - 1))).2.2.2.2.2.2.2.2.2.1 := ⟨_, rfl⟩
  have ei : Int.toNat (((L ++ [begR (idn + 1) (writes + 1) (putR ⟨#[118]⟩) ((i : Int) + 1)]).length : Int) - 1) = (L ++ [begR (idn + 1) (writes + 1) (putR ⟨#[118]⟩) ((i : Int) + 1)]).length - 1 := by rw [List.length_append]; exact (by omega : ∀ k : Nat, Int.toNat (((k + 1 : Nat) : Int) - 1) = k + 1 - 1) _
  have hd : dl = 0 := by rw [edl, ei]; exact congrArg dne (lst_app (L := L))
  have hq : (decide (@Eq Int (Sym.rowAt clC (L ++ [begR (idn + 1) (writes + 1) (putR ⟨#[118]⟩) ((i : Int) + 1)]) (Int.toNat (((L ++ [begR (idn + 1) (writes + 1) (putR ⟨#[118]⟩) ((i : Int) + 1)]).length : Int) - 1))).2.2.2.2.2.2.2.2.2.1 0) == true) = true := by rw [← edl, hd]; rfl
  have eln : (L ++ [begR (idn + 1) (writes + 1) (putR ⟨#[118]⟩) ((i : Int) + 1)]).length = L.length + 1 := by rw [List.length_append]; rfl
  repeat' ((conv => whnf); first | (with_reducible first | (refine W1.o ?_; constructor) | rfl | exact castL_self _ _) | ((with_reducible refine V.same_t ?_); exact rfl) | ((with_reducible refine andB_room ?_ ?_ ?_); (· kernel_rfl); (· (first | omega | (simp only [lens] <;> omega) | (decide +kernel) | (simp only [maxI_eq, pmGet_eq, pmHas_eq, pmPut_eq, pmClk_eq, pmDel_eq] <;> decide +kernel)))) | ((with_reducible refine W2.o ?_; constructor); · (first | (with_reducible assumption) | (first | omega | (simp only [lens] <;> omega) | (decide +kernel) | (simp only [maxI_eq, pmGet_eq, pmHas_eq, pmPut_eq, pmClk_eq, pmDel_eq] <;> decide +kernel)))) | ((with_reducible refine W3.o ?_; constructor); · (first | (with_reducible assumption) | (first | omega | (simp only [lens] <;> omega) | (decide +kernel) | (simp only [maxI_eq, pmGet_eq, pmHas_eq, pmPut_eq, pmClk_eq, pmDel_eq] <;> decide +kernel)))) | ((with_reducible refine W4.o ?_; constructor); · (first | (with_reducible first | assumption | exact decide_eq_true rfl | exact sEq_self _) | ((with_reducible refine eqOK_i ?_); kernel_rfl) | (first | (exact hq) | (simp only [maxI_eq, pmGet_eq, pmHas_eq, pmPut_eq, pmClk_eq, pmDel_eq] <;> decide +kernel)))) | ((with_reducible refine iteB_f ?_ ?_); · (first | (with_reducible first | assumption | exact decide_eq_true rfl | exact sEq_self _) | ((with_reducible refine eqOK_i ?_); kernel_rfl) | (first | (exact hq) | (simp only [maxI_eq, pmGet_eq, pmHas_eq, pmPut_eq, pmClk_eq, pmDel_eq] <;> decide +kernel)))) | (refine ⟨⟨(i + 1, .pnd node (writes + 1) sent (L ++ [begR (idn + 1) (writes + 1) (putR ⟨#[118]⟩) ((i : Int) + 1)]) true 0 [] 0, ls'), h'⟩, ?_, rfl, ?_⟩) | (with_reducible refine CD.wk_au ?_) | (with_reducible refine W5.o ?_; constructor) | ((with_reducible refine W6.o ?_; constructor) <;> intro hB))
  all_goals ((conv => whnf); (try dsimp only); (try simp only [Nat.succ_eq_add_one, Nat.le_eq, castL_self]); (try omega))
  all_goals (try (first | omega | (simp only [lens] <;> omega) | (decide +kernel) | (simp only [maxI_eq, pmGet_eq, pmHas_eq, pmPut_eq, pmClk_eq, pmDel_eq] <;> decide +kernel)))
  all_goals first
    | exact rfl
    | (rw [es]; exact rfl)
    | exact congrArg (fun z => [begR 0 0 getR z]) es
    | exact congrArg (fun z => L ++ [begR 0 0 getR z]) es
    | exact congrArg (fun z => L ++ [begR (idn + 1) (writes + 1) (putR ⟨#[118]⟩) z]) es
    | trace_state
theorem rd_idlGet (node writes sent : Int) (L : List ClR) (ls' : List LpD) (H : H27 idn nodes l n) (hlt : i < n) (ha : @Eq Int ((Sym.rowAt a3 l (Int.toNat (i : Int))).1 % 5) 0) (hb : @Eq Int ((Sym.rowAt a3 l (Int.toNat (i : Int))).2.1 % 3) 0) (h : P27 idn nodes l n (i, .idl node writes sent L, [lpP idn nodes l i [(0, 0), (1, 9), (2, 10), (3, 11), (4, 8)] node writes sent (L ++ [begR 0 0 getR ((i : Int) + 1)]) true 0 [] 0])) (h' : P27 idn nodes l n (i + 1, .pnd node writes sent (L ++ [begR 0 0 getR ((i : Int) + 1)]) true 0 [] 0, ls')) : RG idn nodes l n i (.idl node writes sent L) [lpP idn nodes l i [(0, 0), (1, 9), (2, 10), (3, 11), (4, 8)] node writes sent (L ++ [begR 0 0 getR ((i : Int) + 1)]) true 0 [] 0] h := by
  obtain ⟨hn, hn3, hl, hr, hid, hno⟩ := H
  obtain ⟨⟨r1, r2⟩, ⟨r3, r4⟩, r5, r6⟩ := hr i hlt
  have es : ((i : Int) + 1) % 18446744073709551616 = (i : Int) + 1 := Int.emod_eq_of_lt (by omega) (by omega)
  obtain ⟨hi, ⟨v1, v2⟩, ⟨v3, v4⟩, ⟨v5, v6⟩, ⟨v7, v8⟩, v9, v10, v11⟩ := (⟨h.1, h.2.1⟩ : i ≤ n ∧ Inv27 idn nodes i (.idl node writes sent L))
  have ew : (writes + 1) % 18446744073709551616 = writes + 1 := Int.emod_eq_of_lt (by omega) (by omega)
  obtain ⟨dl, edl⟩ : ∃ d : Int, @Eq Int d (Sym.rowAt clC (L ++ [begR 0 0 getR ((i : Int) + 1)]) (Int.toNat (((L ++ [begR 0 0 getR ((i : Int) + 1)]).length : Int) - 1))).2.2.2.2.2.2.2.2.2.1 := ⟨_, rfl⟩
  have ei : Int.toNat (((L ++ [begR 0 0 getR ((i : Int) + 1)]).length : Int) - 1) = (L ++ [begR 0 0 getR ((i : Int) + 1)]).length - 1 := by rw [List.length_append]; exact (by omega : ∀ k : Nat, Int.toNat (((k + 1 : Nat) : Int) - 1) = k + 1 - 1) _
  have hd : dl = 0 := by rw [edl, ei]; exact congrArg dne (lst_app (L := L))
  have hq : (decide (@Eq Int (Sym.rowAt clC (L ++ [begR 0 0 getR ((i : Int) + 1)]) (Int.toNat (((L ++ [begR 0 0 getR ((i : Int) + 1)]).length : Int) - 1))).2.2.2.2.2.2.2.2.2.1 0) == true) = true := by rw [← edl, hd]; rfl
  have eln : (L ++ [begR 0 0 getR ((i : Int) + 1)]).length = L.length + 1 := by rw [List.length_append]; rfl
  repeat' ((conv => whnf); first | (with_reducible first | (refine W1.o ?_; constructor) | rfl | exact castL_self _ _) | ((with_reducible refine V.same_t ?_); exact rfl) | ((with_reducible refine andB_room ?_ ?_ ?_); (· kernel_rfl); (· (first | omega | (simp only [lens] <;> omega) | (decide +kernel) | (simp only [maxI_eq, pmGet_eq, pmHas_eq, pmPut_eq, pmClk_eq, pmDel_eq] <;> decide +kernel)))) | ((with_reducible refine W2.o ?_; constructor); · (first | (with_reducible assumption) | (first | omega | (simp only [lens] <;> omega) | (decide +kernel) | (simp only [maxI_eq, pmGet_eq, pmHas_eq, pmPut_eq, pmClk_eq, pmDel_eq] <;> decide +kernel)))) | ((with_reducible refine W3.o ?_; constructor); · (first | (with_reducible assumption) | (first | omega | (simp only [lens] <;> omega) | (decide +kernel) | (simp only [maxI_eq, pmGet_eq, pmHas_eq, pmPut_eq, pmClk_eq, pmDel_eq] <;> decide +kernel)))) | ((with_reducible refine W4.o ?_; constructor); · (first | (with_reducible first | assumption | exact decide_eq_true rfl | exact sEq_self _) | ((with_reducible refine eqOK_i ?_); kernel_rfl) | (first | (exact hq) | (simp only [maxI_eq, pmGet_eq, pmHas_eq, pmPut_eq, pmClk_eq, pmDel_eq] <;> decide +kernel)))) | ((with_reducible refine iteB_f ?_ ?_); · (first | (with_reducible first | assumption | exact decide_eq_true rfl | exact sEq_self _) | ((with_reducible refine eqOK_i ?_); kernel_rfl) | (first | (exact hq) | (simp only [maxI_eq, pmGet_eq, pmHas_eq, pmPut_eq, pmClk_eq, pmDel_eq] <;> decide +kernel)))) | (refine ⟨⟨(i + 1, .pnd node writes sent (L ++ [begR 0 0 getR ((i : Int) + 1)]) true 0 [] 0, ls'), h'⟩, ?_, rfl, ?_⟩) | (with_reducible refine CD.wk_au ?_) | (with_reducible refine W5.o ?_; constructor) | ((with_reducible refine W6.o ?_; constructor) <;> intro hB))
  all_goals ((conv => whnf); (try dsimp only); (try simp only [Nat.succ_eq_add_one, Nat.le_eq, castL_self]); (try omega))
  all_goals (try (first | omega | (simp only [lens] <;> omega) | (decide +kernel) | (simp only [maxI_eq, pmGet_eq, pmHas_eq, pmPut_eq, pmClk_eq, pmDel_eq] <;> decide +kernel)))
  all_goals first
    | exact rfl
    | (rw [es]; exact rfl)
    | exact congrArg (fun z => [begR 0 0 getR z]) es
    | exact congrArg (fun z => L ++ [begR 0 0 getR z]) es
    | exact congrArg (fun z => L ++ [begR (idn + 1) (writes + 1) (putR ⟨#[118]⟩) z]) es
    | trace_state
theorem rd_idlNext (node writes sent : Int) (L : List ClR) (ls' : List LpD) (H : H27 idn nodes l n) (hlt : i < n) (ha : @Eq Int ((Sym.rowAt a3 l (Int.toNat (i : Int))).1 % 5) 1 ∨ @Eq Int ((Sym.rowAt a3 l (Int.toNat (i : Int))).1 % 5) 2) (h : P27 idn nodes l n (i, .idl node writes sent L, [lpI idn nodes l i [(0, 0), (1, 6), (2, 2)] node writes sent L])) (h' : P27 idn nodes l n (i + 1, .idl node writes sent L, ls')) : RG idn nodes l n i (.idl node writes sent L) [lpI idn nodes l i [(0, 0), (1, 6), (2, 2)] node writes sent L] h := by
  obtain ⟨hn, hn3, hl, hr, hid, hno⟩ := H
  obtain ⟨⟨r1, r2⟩, ⟨r3, r4⟩, r5, r6⟩ := hr i hlt
  have es : ((i : Int) + 1) % 18446744073709551616 = (i : Int) + 1 := Int.emod_eq_of_lt (by omega) (by omega)
  obtain ⟨hi, ⟨v1, v2⟩, ⟨v3, v4⟩, ⟨v5, v6⟩, ⟨v7, v8⟩, v9, v10, v11⟩ := (⟨h.1, h.2.1⟩ : i ≤ n ∧ Inv27 idn nodes i (.idl node writes sent L))
  have ew : (writes + 1) % 18446744073709551616 = writes + 1 := Int.emod_eq_of_lt (by omega) (by omega)
  obtain ⟨dl, edl⟩ : ∃ d : Int, @Eq Int d (Sym.rowAt clC L (Int.toNat ((L.length : Int) - 1))).2.2.2.2.2.2.2.2.2.1 := ⟨_, rfl⟩
  have ei : Int.toNat ((L.length : Int) - 1) = L.length - 1 := by omega
  have hd : ¬ dl = 0 := by rw [edl, ei]; exact v10
  have hq : (decide (@Eq Int (Sym.rowAt clC L (Int.toNat ((L.length : Int) - 1))).2.2.2.2.2.2.2.2.2.1 0) == false) = true := by rw [← edl, decide_eq_false hd]; rfl
  rcases ha with ha | ha
  all_goals
    repeat' ((conv => whnf); first | (with_reducible first | (refine W1.o ?_; constructor) | rfl | exact castL_self _ _) | ((with_reducible refine V.same_t ?_); exact rfl) | ((with_reducible refine andB_room ?_ ?_ ?_); (· kernel_rfl); (· (first | omega | (simp only [lens] <;> omega) | (decide +kernel) | (simp only [maxI_eq, pmGet_eq, pmHas_eq, pmPut_eq, pmClk_eq, pmDel_eq] <;> decide +kernel)))) | ((with_reducible refine W2.o ?_; constructor); · (first | (with_reducible assumption) | (first | omega | (simp only [lens] <;> omega) | (decide +kernel) | (simp only [maxI_eq, pmGet_eq, pmHas_eq, pmPut_eq, pmClk_eq, pmDel_eq] <;> decide +kernel)))) | ((with_reducible refine W3.o ?_; constructor); · (first | (with_reducible assumption) | (first | omega | (simp only [lens] <;> omega) | (decide +kernel) | (simp only [maxI_eq, pmGet_eq, pmHas_eq, pmPut_eq, pmClk_eq, pmDel_eq] <;> decide +kernel)))) | ((with_reducible refine W4.o ?_; constructor); · (first | (with_reducible first | assumption | exact decide_eq_true rfl | exact sEq_self _) | ((with_reducible refine eqOK_i ?_); kernel_rfl) | (first | (exact hq) | (simp only [maxI_eq, pmGet_eq, pmHas_eq, pmPut_eq, pmClk_eq, pmDel_eq] <;> decide +kernel)))) | ((with_reducible refine iteB_f ?_ ?_); · (first | (with_reducible first | assumption | exact decide_eq_true rfl | exact sEq_self _) | ((with_reducible refine eqOK_i ?_); kernel_rfl) | (first | (exact hq) | (simp only [maxI_eq, pmGet_eq, pmHas_eq, pmPut_eq, pmClk_eq, pmDel_eq] <;> decide +kernel)))) | (refine ⟨⟨(i + 1, .idl node writes sent L, ls'), h'⟩, ?_, rfl, ?_⟩) | (with_reducible refine CD.wk_au ?_) | (with_reducible refine W5.o ?_; constructor) | ((with_reducible refine W6.o ?_; constructor) <;> intro hB))
    all_goals ((conv => whnf); (try dsimp only); (try simp only [Nat.succ_eq_add_one, Nat.le_eq, castL_self]); (try omega))
    all_goals (try (first | omega | (simp only [lens] <;> omega) | (decide +kernel) | (simp only [maxI_eq, pmGet_eq, pmHas_eq, pmPut_eq, pmClk_eq, pmDel_eq] <;> decide +kernel)))
    all_goals first
      | exact rfl
      | (rw [es]; exact rfl)
      | exact congrArg (fun z => [begR 0 0 getR z]) es
      | trace_state
theorem rd_idlTell (node writes sent : Int) (L : List ClR) (ls' : List LpD) (H : H27 idn nodes l n) (hlt : i < n) (ha : @Eq Int ((Sym.rowAt a3 l (Int.toNat (i : Int))).1 % 5) 3) (h : P27 idn nodes l n (i, .idl node writes sent L, [lpI idn nodes l i [(0, 0), (1, 6), (2, 2)] node writes sent L])) (h' : P27 idn nodes l n (i + 1, .idl node writes sent L, ls')) : RG idn nodes l n i (.idl node writes sent L) [lpI idn nodes l i [(0, 0), (1, 6), (2, 2)] node writes sent L] h := by
  obtain ⟨hn, hn3, hl, hr, hid, hno⟩ := H
  obtain ⟨⟨r1, r2⟩, ⟨r3, r4⟩, r5, r6⟩ := hr i hlt
  have es : ((i : Int) + 1) % 18446744073709551616 = (i : Int) + 1 := Int.emod_eq_of_lt (by omega) (by omega)
  obtain ⟨hi, ⟨v1, v2⟩, ⟨v3, v4⟩, ⟨v5, v6⟩, ⟨v7, v8⟩, v9, v10, v11⟩ := (⟨h.1, h.2.1⟩ : i ≤ n ∧ Inv27 idn nodes i (.idl node writes sent L))
  have ew : (writes + 1) % 18446744073709551616 = writes + 1 := Int.emod_eq_of_lt (by omega) (by omega)
  obtain ⟨dl, edl⟩ : ∃ d : Int, @Eq Int d (Sym.rowAt clC L (Int.toNat ((L.length : Int) - 1))).2.2.2.2.2.2.2.2.2.1 := ⟨_, rfl⟩
  have ei : Int.toNat ((L.length : Int) - 1) = L.length - 1 := by omega
  have hd : ¬ dl = 0 := by rw [edl, ei]; exact v10
  have hq : (decide (@Eq Int (Sym.rowAt clC L (Int.toNat ((L.length : Int) - 1))).2.2.2.2.2.2.2.2.2.1 0) == false) = true := by rw [← edl, decide_eq_false hd]; rfl
  have em : ∀ d : Int, pmDel (.int .u64) (.int .i64) (mpV (.int .i64) (1 : Int) []) d = mpV (.int .i64) (1 : Int) [] := fun d => by rw [del_mp, del_nil]
  repeat' ((conv => whnf); first | (with_reducible first | (refine W1.o ?_; constructor) | rfl | exact castL_self _ _) | ((with_reducible refine V.same_t ?_); exact rfl) | ((with_reducible refine andB_room ?_ ?_ ?_); (· kernel_rfl); (· (first | omega | (simp only [lens] <;> omega) | (decide +kernel) | (simp only [maxI_eq, pmGet_eq, pmHas_eq, pmPut_eq, pmClk_eq, pmDel_eq] <;> decide +kernel)))) | ((with_reducible refine W2.o ?_; constructor); · (first | (with_reducible assumption) | (first | omega | (simp only [lens] <;> omega) | (decide +kernel) | (simp only [maxI_eq, pmGet_eq, pmHas_eq, pmPut_eq, pmClk_eq, pmDel_eq] <;> decide +kernel)))) | ((with_reducible refine W3.o ?_; constructor); · (first | (with_reducible assumption) | (first | omega | (simp only [lens] <;> omega) | (decide +kernel) | (simp only [maxI_eq, pmGet_eq, pmHas_eq, pmPut_eq, pmClk_eq, pmDel_eq] <;> decide +kernel)))) | ((with_reducible refine W4.o ?_; constructor); · (first | (with_reducible first | assumption | exact decide_eq_true rfl | exact sEq_self _) | ((with_reducible refine eqOK_i ?_); kernel_rfl) | (first | (exact hq) | (simp only [maxI_eq, pmGet_eq, pmHas_eq, pmPut_eq, pmClk_eq, pmDel_eq] <;> decide +kernel)))) | ((with_reducible refine iteB_f ?_ ?_); · (first | (with_reducible first | assumption | exact decide_eq_true rfl | exact sEq_self _) | ((with_reducible refine eqOK_i ?_); kernel_rfl) | (first | (exact hq) | (simp only [maxI_eq, pmGet_eq, pmHas_eq, pmPut_eq, pmClk_eq, pmDel_eq] <;> decide +kernel)))) | (refine ⟨⟨(i + 1, .idl node writes sent L, ls'), h'⟩, ?_, rfl, ?_⟩) | (with_reducible refine CD.wk_au ?_) | (with_reducible refine W5.o ?_; constructor) | ((with_reducible refine W6.o ?_; constructor) <;> intro hB))
  all_goals ((conv => whnf); (try dsimp only); (try simp only [Nat.succ_eq_add_one, Nat.le_eq, castL_self]); (try omega))
  all_goals (try (first | omega | (simp only [lens] <;> omega) | (decide +kernel) | (simp only [maxI_eq, pmGet_eq, pmHas_eq, pmPut_eq, pmClk_eq, pmDel_eq] <;> decide +kernel)))
  all_goals first
    | exact rfl
    | (rw [es]; exact rfl)
    | exact congrArg (fun z => [begR 0 0 getR z]) es
    | exact em _
    | trace_state
theorem rd_idlTick (node writes sent : Int) (L : List ClR) (m : Nat) (ls' : List LpD) (H : H27 idn nodes l n) (hlt : i < n) (ha : @Eq Int ((Sym.rowAt a3 l (Int.toNat (i : Int))).1 % 5) 4) (hm : @Eq Int (m : Int) ((Sym.rowAt a3 l (Int.toNat (i : Int))).2.1 % 30)) (h : P27 idn nodes l n (i, .idl node writes sent L, [⟨15, [(0, 0), (1, 3), (2, 2)], tiC idn nodes node writes sent l L i ((i : Int) + 1) 0, .leaf (.exit 3) (tiC idn nodes node writes sent l L i ((i : Int) + 1) m)⟩, lpI idn nodes l i [(0, 0), (1, 3), (2, 2)] node writes sent L])) (h' : P27 idn nodes l n (i + 1, .idl node writes sent L, ls')) : RG idn nodes l n i (.idl node writes sent L) [⟨15, [(0, 0), (1, 3), (2, 2)], tiC idn nodes node writes sent l L i ((i : Int) + 1) 0, .leaf (.exit 3) (tiC idn nodes node writes sent l L i ((i : Int) + 1) m)⟩, lpI idn nodes l i [(0, 0), (1, 3), (2, 2)] node writes sent L] h := by
  obtain ⟨hn, hn3, hl, hr, hid, hno⟩ := H
  obtain ⟨⟨r1, r2⟩, ⟨r3, r4⟩, r5, r6⟩ := hr i hlt
  have es : ((i : Int) + 1) % 18446744073709551616 = (i : Int) + 1 := Int.emod_eq_of_lt (by omega) (by omega)
  obtain ⟨hi, ⟨v1, v2⟩, ⟨v3, v4⟩, ⟨v5, v6⟩, ⟨v7, v8⟩, v9, v10, v11⟩ := (⟨h.1, h.2.1⟩ : i ≤ n ∧ Inv27 idn nodes i (.idl node writes sent L))
  have ew : (writes + 1) % 18446744073709551616 = writes + 1 := Int.emod_eq_of_lt (by omega) (by omega)
  obtain ⟨dl, edl⟩ : ∃ d : Int, @Eq Int d (Sym.rowAt clC L (Int.toNat ((L.length : Int) - 1))).2.2.2.2.2.2.2.2.2.1 := ⟨_, rfl⟩
  have ei : Int.toNat ((L.length : Int) - 1) = L.length - 1 := by omega
  have hd : ¬ dl = 0 := by rw [edl, ei]; exact v10
  have hq : (decide (@Eq Int (Sym.rowAt clC L (Int.toNat ((L.length : Int) - 1))).2.2.2.2.2.2.2.2.2.1 0) == false) = true := by rw [← edl, decide_eq_false hd]; rfl
  repeat' ((conv => whnf); first | (with_reducible first | (refine W1.o ?_; constructor) | rfl | exact castL_self _ _) | ((with_reducible refine V.same_t ?_); exact rfl) | ((with_reducible refine andB_room ?_ ?_ ?_); (· kernel_rfl); (· (first | omega | (simp only [lens] <;> omega) | (decide +kernel) | (simp only [maxI_eq, pmGet_eq, pmHas_eq, pmPut_eq, pmClk_eq, pmDel_eq] <;> decide +kernel)))) | ((with_reducible refine W2.o ?_; constructor); · (first | (with_reducible assumption) | (first | omega | (simp only [lens] <;> omega) | (decide +kernel) | (simp only [maxI_eq, pmGet_eq, pmHas_eq, pmPut_eq, pmClk_eq, pmDel_eq] <;> decide +kernel)))) | ((with_reducible refine W3.o ?_; constructor); · (first | (with_reducible assumption) | (first | omega | (simp only [lens] <;> omega) | (decide +kernel) | (simp only [maxI_eq, pmGet_eq, pmHas_eq, pmPut_eq, pmClk_eq, pmDel_eq] <;> decide +kernel)))) | ((with_reducible refine W4.o ?_; constructor); · (first | (with_reducible first | assumption | exact decide_eq_true rfl | exact sEq_self _) | ((with_reducible refine eqOK_i ?_); kernel_rfl) | (first | (exact hq) | (simp only [maxI_eq, pmGet_eq, pmHas_eq, pmPut_eq, pmClk_eq, pmDel_eq] <;> decide +kernel)))) | ((with_reducible refine iteB_f ?_ ?_); · (first | (with_reducible first | assumption | exact decide_eq_true rfl | exact sEq_self _) | ((with_reducible refine eqOK_i ?_); kernel_rfl) | (first | (exact hq) | (simp only [maxI_eq, pmGet_eq, pmHas_eq, pmPut_eq, pmClk_eq, pmDel_eq] <;> decide +kernel)))) | (refine ⟨⟨(i + 1, .idl node writes sent L, ls'), h'⟩, ?_, rfl, ?_⟩) | (with_reducible refine CD.wk_au ?_) | (with_reducible refine W5.o ?_; constructor) | ((with_reducible refine W6.o ?_; constructor) <;> intro hB))
  all_goals ((conv => whnf); (try dsimp only); (try simp only [Nat.succ_eq_add_one, Nat.le_eq, castL_self]); (try omega))
  all_goals (try (first | omega | (simp only [lens] <;> omega) | (decide +kernel) | (simp only [maxI_eq, pmGet_eq, pmHas_eq, pmPut_eq, pmClk_eq, pmDel_eq] <;> decide +kernel)))
  all_goals first
    | exact rfl
    | (rw [es]; exact rfl)
    | exact congrArg (fun z => [begR 0 0 getR z]) es
    | trace_state
end
end Go.Proofs.Ytlfhiophojahbaa
end

section
namespace Go.Proofs.Ytlfhiophojahbaa
open Go.Sym
set_option linter.unusedVariables false
set_option linter.unusedSimpArgs false
set_option maxRecDepth 100000
set_option maxHeartbeats 4000000
section
variable (idn nodes : Int) (l : List (Int × Int × Int)) (n i : Nat)
theorem rd_pndAsk (node writes sent : Int) (L : List ClR) (send : Bool) (ticks : Int) (M : KM) (clk : Nat) (ls' : List LpD) (H : H27 idn nodes l n) (hlt : i < n) (ha : @Eq Int ((Sym.rowAt a3 l (Int.toNat (i : Int))).1 % 5) 0) (h : P27 idn nodes l n (i, .pnd node writes sent L send ticks M clk, [lpP idn nodes l i [(0, 0), (1, 10), (2, 11), (3, 12), (4, 4)] node writes sent L send ticks M clk])) (h' : P27 idn nodes l n (i + 1, .pnd node writes sent L send ticks M clk, ls')) : RG idn nodes l n i (.pnd node writes sent L send ticks M clk) [lpP idn nodes l i [(0, 0), (1, 10), (2, 11), (3, 12), (4, 4)] node writes sent L send ticks M clk] h := by
  obtain ⟨hn, hn3, hl, hr, hid, hno⟩ := H
  obtain ⟨⟨r1, r2⟩, ⟨r3, r4⟩, r5, r6⟩ := hr i hlt
  have es : ((i : Int) + 1) % 18446744073709551616 = (i : Int) + 1 := Int.emod_eq_of_lt (by omega) (by omega)
  obtain ⟨hi, ⟨v1, v2⟩, ⟨v3, v4⟩, ⟨v5, v6⟩, ⟨v7, v8⟩, v9, ⟨v10, v11⟩, v12, ⟨v13, v14⟩, v15⟩ := (⟨h.1, h.2.1⟩ : i ≤ n ∧ Inv27 idn nodes i (.pnd node writes sent L send ticks M clk))
  have ew : (sent + 1) % 18446744073709551616 = sent + 1 := Int.emod_eq_of_lt (by omega) (by omega)
  have ei : Int.toNat ((L.length : Int) - 1) = L.length - 1 := by omega
  have hq : (decide (@Eq Int (Sym.rowAt clC L (Int.toNat ((L.length : Int) - 1))).2.2.2.2.2.2.2.2.2.1 0) == true) = true := by rw [ei, decide_eq_true (show @Eq Int (Sym.rowAt clC L (L.length - 1)).2.2.2.2.2.2.2.2.2.1 0 from v10)]; rfl
  repeat' ((conv => whnf); first | (with_reducible first | (refine W1.o ?_; constructor) | rfl | exact castL_self _ _) | ((with_reducible refine V.same_t ?_); exact rfl) | ((with_reducible refine andB_room ?_ ?_ ?_); (· kernel_rfl); (· (first | omega | (simp only [lens] <;> omega) | (decide +kernel) | (simp only [maxI_eq, pmGet_eq, pmHas_eq, pmPut_eq, pmClk_eq, pmDel_eq] <;> decide +kernel)))) | ((with_reducible refine W2.o ?_; constructor); · (first | (with_reducible assumption) | (first | omega | (simp only [lens] <;> omega) | (decide +kernel) | (simp only [maxI_eq, pmGet_eq, pmHas_eq, pmPut_eq, pmClk_eq, pmDel_eq] <;> decide +kernel)))) | ((with_reducible refine W3.o ?_; constructor); · (first | (with_reducible assumption) | (first | omega | (simp only [lens] <;> omega) | (decide +kernel) | (simp only [maxI_eq, pmGet_eq, pmHas_eq, pmPut_eq, pmClk_eq, pmDel_eq] <;> decide +kernel)))) | ((with_reducible refine W4.o ?_; constructor); · (first | (with_reducible first | assumption | exact decide_eq_true rfl | exact sEq_self _) | ((with_reducible refine eqOK_i ?_); kernel_rfl) | (first | (exact hq) | (simp only [maxI_eq, pmGet_eq, pmHas_eq, pmPut_eq, pmClk_eq, pmDel_eq] <;> decide +kernel)))) | ((with_reducible refine iteB_f ?_ ?_); · (first | (with_reducible first | assumption | exact decide_eq_true rfl | exact sEq_self _) | ((with_reducible refine eqOK_i ?_); kernel_rfl) | (first | (exact hq) | (simp only [maxI_eq, pmGet_eq, pmHas_eq, pmPut_eq, pmClk_eq, pmDel_eq] <;> decide +kernel)))) | (refine ⟨⟨(i + 1, .pnd node writes sent L send ticks M clk, ls'), h'⟩, ?_, rfl, ?_⟩) | (with_reducible refine CD.wk_au ?_) | (with_reducible refine W5.o ?_; constructor) | ((with_reducible refine W6.o ?_; constructor) <;> intro hB))
  all_goals ((conv => whnf); (try dsimp only); (try simp only [Nat.succ_eq_add_one, Nat.le_eq, castL_self]); (try omega))
  all_goals (try (first | omega | (simp only [lens] <;> omega) | (decide +kernel) | (simp only [maxI_eq, pmGet_eq, pmHas_eq, pmPut_eq, pmClk_eq, pmDel_eq] <;> decide +kernel)))
  all_goals first
    | exact rfl
    | (rw [es]; exact rfl)
    | exact congrArg (fun z => [begR 0 0 getR z]) es
    | trace_state
theorem rd_pndNone (node writes sent : Int) (L : List ClR) (ticks : Int) (M : KM) (clk : Nat) (ls' : List LpD) (H : H27 idn nodes l n) (hlt : i < n) (ha : @Eq Int ((Sym.rowAt a3 l (Int.toNat (i : Int))).1 % 5) 1 ∨ @Eq Int ((Sym.rowAt a3 l (Int.toNat (i : Int))).1 % 5) 2) (h : P27 idn nodes l n (i, .pnd node writes sent L false ticks M clk, [lpP idn nodes l i [(0, 0), (1, 10), (2, 11), (3, 12), (4, 4)] node writes sent L false ticks M clk])) (h' : P27 idn nodes l n (i + 1, .pnd node writes sent L false ticks M clk, ls')) : RG idn nodes l n i (.pnd node writes sent L false ticks M clk) [lpP idn nodes l i [(0, 0), (1, 10), (2, 11), (3, 12), (4, 4)] node writes sent L false ticks M clk] h := by
  obtain ⟨hn, hn3, hl, hr, hid, hno⟩ := H
  obtain ⟨⟨r1, r2⟩, ⟨r3, r4⟩, r5, r6⟩ := hr i hlt
  have es : ((i : Int) + 1) % 18446744073709551616 = (i : Int) + 1 := Int.emod_eq_of_lt (by omega) (by omega)
  obtain ⟨hi, ⟨v1, v2⟩, ⟨v3, v4⟩, ⟨v5, v6⟩, ⟨v7, v8⟩, v9, ⟨v10, v11⟩, v12, ⟨v13, v14⟩, v15⟩ := (⟨h.1, h.2.1⟩ : i ≤ n ∧ Inv27 idn nodes i (.pnd node writes sent L false ticks M clk))
  have ew : (sent + 1) % 18446744073709551616 = sent + 1 := Int.emod_eq_of_lt (by omega) (by omega)
  have ei : Int.toNat ((L.length : Int) - 1) = L.length - 1 := by omega
  have hq : (decide (@Eq Int (Sym.rowAt clC L (Int.toNat ((L.length : Int) - 1))).2.2.2.2.2.2.2.2.2.1 0) == true) = true := by rw [ei, decide_eq_true (show @Eq Int (Sym.rowAt clC L (L.length - 1)).2.2.2.2.2.2.2.2.2.1 0 from v10)]; rfl
  rcases ha with ha | ha
  all_goals
    repeat' ((conv => whnf); first | (with_reducible first | (refine W1.o ?_; constructor) | rfl | exact castL_self _ _) | ((with_reducible refine V.same_t ?_); exact rfl) | ((with_reducible refine andB_room ?_ ?_ ?_); (· kernel_rfl); (· (first | omega | (simp only [lens] <;> omega) | (decide +kernel) | (simp only [maxI_eq, pmGet_eq, pmHas_eq, pmPut_eq, pmClk_eq, pmDel_eq] <;> decide +kernel)))) | ((with_reducible refine W2.o ?_; constructor); · (first | (with_reducible assumption) | (first | omega | (simp only [lens] <;> omega) | (decide +kernel) | (simp only [maxI_eq, pmGet_eq, pmHas_eq, pmPut_eq, pmClk_eq, pmDel_eq] <;> decide +kernel)))) | ((with_reducible refine W3.o ?_; constructor); · (first | (with_reducible assumption) | (first | omega | (simp only [lens] <;> omega) | (decide +kernel) | (simp only [maxI_eq, pmGet_eq, pmHas_eq, pmPut_eq, pmClk_eq, pmDel_eq] <;> decide +kernel)))) | ((with_reducible refine W4.o ?_; constructor); · (first | (with_reducible first | assumption | exact decide_eq_true rfl | exact sEq_self _) | ((with_reducible refine eqOK_i ?_); kernel_rfl) | (first | (exact hq) | (simp only [maxI_eq, pmGet_eq, pmHas_eq, pmPut_eq, pmClk_eq, pmDel_eq] <;> decide +kernel)))) | ((with_reducible refine iteB_f ?_ ?_); · (first | (with_reducible first | assumption | exact decide_eq_true rfl | exact sEq_self _) | ((with_reducible refine eqOK_i ?_); kernel_rfl) | (first | (exact hq) | (simp only [maxI_eq, pmGet_eq, pmHas_eq, pmPut_eq, pmClk_eq, pmDel_eq] <;> decide +kernel)))) | (refine ⟨⟨(i + 1, .pnd node writes sent L false ticks M clk, ls'), h'⟩, ?_, rfl, ?_⟩) | (with_reducible refine CD.wk_au ?_) | (with_reducible refine W5.o ?_; constructor) | ((with_reducible refine W6.o ?_; constructor) <;> intro hB))
    all_goals ((conv => whnf); (try dsimp only); (try simp only [Nat.succ_eq_add_one, Nat.le_eq, castL_self]); (try omega))
    all_goals (try (first | omega | (simp only [lens] <;> omega) | (decide +kernel) | (simp only [maxI_eq, pmGet_eq, pmHas_eq, pmPut_eq, pmClk_eq, pmDel_eq] <;> decide +kernel)))
    all_goals first
      | exact rfl
      | (rw [es]; exact rfl)
      | exact congrArg (fun z => [begR 0 0 getR z]) es
      | trace_state
theorem rd_pndTick (node writes sent : Int) (L : List ClR) (send : Bool) (ticks : Int) (M : KM) (clk : Nat) (m : Nat) (ls' : List LpD) (H : H27 idn nodes l n) (hlt : i < n) (ha : @Eq Int ((Sym.rowAt a3 l (Int.toNat (i : Int))).1 % 5) 4) (hm : @Eq Int (m : Int) ((Sym.rowAt a3 l (Int.toNat (i : Int))).2.1 % 30)) (h : P27 idn nodes l n (i, .pnd node writes sent L send ticks M clk, [⟨15, [(0, 0), (1, 5), (2, 6), (3, 7), (4, 4)], tkC idn nodes node writes sent l L send ticks M clk i ((i : Int) + 1) 0, .leaf (.exit 3) (tkC idn nodes node writes sent l L send ticks M clk i ((i : Int) + 1) m)⟩, lpP idn nodes l i [(0, 0), (1, 5), (2, 6), (3, 7), (4, 4)] (tkN nodes (node, send, ticks) m) writes sent L (tkS nodes (node, send, ticks) m) (tkT nodes (node, send, ticks) m) M clk])) (h' : P27 idn nodes l n (i + 1, .pnd (tkN nodes (node, send, ticks) m) writes sent L (tkS nodes (node, send, ticks) m) (tkT nodes (node, send, ticks) m) M clk, ls')) : RG idn nodes l n i (.pnd node writes sent L send ticks M clk) [⟨15, [(0, 0), (1, 5), (2, 6), (3, 7), (4, 4)], tkC idn nodes node writes sent l L send ticks M clk i ((i : Int) + 1) 0, .leaf (.exit 3) (tkC idn nodes node writes sent l L send ticks M clk i ((i : Int) + 1) m)⟩, lpP idn nodes l i [(0, 0), (1, 5), (2, 6), (3, 7), (4, 4)] (tkN nodes (node, send, ticks) m) writes sent L (tkS nodes (node, send, ticks) m) (tkT nodes (node, send, ticks) m) M clk] h := by
  obtain ⟨hn, hn3, hl, hr, hid, hno⟩ := H
  obtain ⟨⟨r1, r2⟩, ⟨r3, r4⟩, r5, r6⟩ := hr i hlt
  have es : ((i : Int) + 1) % 18446744073709551616 = (i : Int) + 1 := Int.emod_eq_of_lt (by omega) (by omega)
  obtain ⟨hi, ⟨v1, v2⟩, ⟨v3, v4⟩, ⟨v5, v6⟩, ⟨v7, v8⟩, v9, ⟨v10, v11⟩, v12, ⟨v13, v14⟩, v15⟩ := (⟨h.1, h.2.1⟩ : i ≤ n ∧ Inv27 idn nodes i (.pnd node writes sent L send ticks M clk))
  have ew : (sent + 1) % 18446744073709551616 = sent + 1 := Int.emod_eq_of_lt (by omega) (by omega)
  have ei : Int.toNat ((L.length : Int) - 1) = L.length - 1 := by omega
  have hq : (decide (@Eq Int (Sym.rowAt clC L (Int.toNat ((L.length : Int) - 1))).2.2.2.2.2.2.2.2.2.1 0) == true) = true := by rw [ei, decide_eq_true (show @Eq Int (Sym.rowAt clC L (L.length - 1)).2.2.2.2.2.2.2.2.2.1 0 from v10)]; rfl
  obtain ⟨q1, q2, q3⟩ := tk_0 nodes (node, send, ticks)
  repeat' ((conv => whnf); first | (with_reducible first | (refine W1.o ?_; constructor) | rfl | exact castL_self _ _) | ((with_reducible refine V.same_t ?_); exact rfl) | ((with_reducible refine andB_room ?_ ?_ ?_); (· kernel_rfl); (· (first | omega | (simp only [lens] <;> omega) | (decide +kernel) | (simp only [maxI_eq, pmGet_eq, pmHas_eq, pmPut_eq, pmClk_eq, pmDel_eq] <;> decide +kernel)))) | ((with_reducible refine W2.o ?_; constructor); · (first | (with_reducible assumption) | (first | omega | (simp only [lens] <;> omega) | (decide +kernel) | (simp only [maxI_eq, pmGet_eq, pmHas_eq, pmPut_eq, pmClk_eq, pmDel_eq] <;> decide +kernel)))) | ((with_reducible refine W3.o ?_; constructor); · (first | (with_reducible assumption) | (first | omega | (simp only [lens] <;> omega) | (decide +kernel) | (simp only [maxI_eq, pmGet_eq, pmHas_eq, pmPut_eq, pmClk_eq, pmDel_eq] <;> decide +kernel)))) | ((with_reducible refine W4.o ?_; constructor); · (first | (with_reducible first | assumption | exact decide_eq_true rfl | exact sEq_self _) | ((with_reducible refine eqOK_i ?_); kernel_rfl) | (first | (exact hq) | (simp only [maxI_eq, pmGet_eq, pmHas_eq, pmPut_eq, pmClk_eq, pmDel_eq] <;> decide +kernel)))) | ((with_reducible refine iteB_f ?_ ?_); · (first | (with_reducible first | assumption | exact decide_eq_true rfl | exact sEq_self _) | ((with_reducible refine eqOK_i ?_); kernel_rfl) | (first | (exact hq) | (simp only [maxI_eq, pmGet_eq, pmHas_eq, pmPut_eq, pmClk_eq, pmDel_eq] <;> decide +kernel)))) | (refine ⟨⟨(i + 1, .pnd (tkN nodes (node, send, ticks) m) writes sent L (tkS nodes (node, send, ticks) m) (tkT nodes (node, send, ticks) m) M clk, ls'), h'⟩, ?_, rfl, ?_⟩) | (with_reducible refine CD.wk_au ?_) | (with_reducible refine W5.o ?_; constructor) | ((with_reducible refine W6.o ?_; constructor) <;> intro hB))
  all_goals ((conv => whnf); (try dsimp only); (try simp only [Nat.succ_eq_add_one, Nat.le_eq, castL_self]); (try omega))
  all_goals (try (first | omega | (simp only [lens] <;> omega) | (decide +kernel) | (simp only [maxI_eq, pmGet_eq, pmHas_eq, pmPut_eq, pmClk_eq, pmDel_eq] <;> decide +kernel)))
  all_goals first
    | exact rfl
    | (rw [es]; exact rfl)
    | exact congrArg (fun z => [begR 0 0 getR z]) es
    | exact q1.symm
    | exact q2.symm
    | exact q3.symm
    | exact q1
    | exact q2
    | exact q3
    | trace_state
end
end Go.Proofs.Ytlfhiophojahbaa
end

section
namespace Go.Proofs.Ytlfhiophojahbaa
open Go.Sym
set_option linter.unusedVariables false
set_option linter.unusedSimpArgs false
set_option maxRecDepth 100000
set_option maxHeartbeats 4000000
section
variable (idn nodes : Int) (l : List (Int × Int × Int)) (n i : Nat)
theorem rd_pndNext (node writes sent : Int) (L : List ClR) (ticks : Int) (M : KM) (clk : Nat) (ls' : List LpD) (H : H27 idn nodes l n) (hlt : i < n) (ha : @Eq Int ((Sym.rowAt a3 l (Int.toNat (i : Int))).1 % 5) 1 ∨ @Eq Int ((Sym.rowAt a3 l (Int.toNat (i : Int))).1 % 5) 2) (h : P27 idn nodes l n (i, .pnd node writes sent L true ticks M clk, [lpP idn nodes l i [(0, 0), (1, 10), (2, 11), (3, 12), (4, 4)] node writes (sent + 1) L false 0 (putM M (sent + 1) clk) (clkM M (sent + 1) clk)])) (h' : P27 idn nodes l n (i + 1, .pnd node writes (sent + 1) L false 0 (putM M (sent + 1) clk) (clkM M (sent + 1) clk), ls')) : RG idn nodes l n i (.pnd node writes sent L true ticks M clk) [lpP idn nodes l i [(0, 0), (1, 10), (2, 11), (3, 12), (4, 4)] node writes (sent + 1) L false 0 (putM M (sent + 1) clk) (clkM M (sent + 1) clk)] h := by
  obtain ⟨hn, hn3, hl, hr, hid, hno⟩ := H
  obtain ⟨⟨r1, r2⟩, ⟨r3, r4⟩, r5, r6⟩ := hr i hlt
  have es : ((i : Int) + 1) % 18446744073709551616 = (i : Int) + 1 := Int.emod_eq_of_lt (by omega) (by omega)
  obtain ⟨hi, ⟨v1, v2⟩, ⟨v3, v4⟩, ⟨v5, v6⟩, ⟨v7, v8⟩, v9, ⟨v10, v11⟩, v12, ⟨v13, v14⟩, v15⟩ := (⟨h.1, h.2.1⟩ : i ≤ n ∧ Inv27 idn nodes i (.pnd node writes sent L true ticks M clk))
  have ew : (sent + 1) % 18446744073709551616 = sent + 1 := Int.emod_eq_of_lt (by omega) (by omega)
  have ei : Int.toNat ((L.length : Int) - 1) = L.length - 1 := by omega
  have hq : (decide (@Eq Int (Sym.rowAt clC L (Int.toNat ((L.length : Int) - 1))).2.2.2.2.2.2.2.2.2.1 0) == true) = true := by rw [ei, decide_eq_true (show @Eq Int (Sym.rowAt clC L (L.length - 1)).2.2.2.2.2.2.2.2.2.1 0 from v10)]; rfl
  have ej : 0 + Int.toNat ((L.length : Int) - 1) = L.length - 1 := by omega
  have f1 : @Eq Int (Sym.rowAt clC L (0 + Int.toNat ((L.length : Int) - 1))).2.1 (cidC (lstC L)) := by rw [ej]
  have f2 : @Eq Int (Sym.rowAt clC L (0 + Int.toNat ((L.length : Int) - 1))).2.2.1 (numC (lstC L)) := by rw [ej]
  obtain ⟨g1, e1⟩ : ∃ g : Int, g = cidC (lstC L) := ⟨_, rfl⟩
  obtain ⟨g2, e2⟩ : ∃ g : Int, g = numC (lstC L) := ⟨_, rfl⟩
  rw [← e1] at f1 v12
  rw [← e2] at f2 v12
  rcases v12 with ⟨w1, w2⟩ | ⟨w1, w2⟩ <;> rcases ha with ha | ha
  all_goals
    repeat' ((conv => whnf); first | (with_reducible first | (refine W1.o ?_; constructor) | rfl | exact castL_self _ _) | ((with_reducible refine V.same_t ?_); exact rfl) | ((with_reducible refine andB_room ?_ ?_ ?_); (· kernel_rfl); (· (first | omega | (simp only [lens] <;> omega) | (decide +kernel) | (simp only [maxI_eq, pmGet_eq, pmHas_eq, pmPut_eq, pmClk_eq, pmDel_eq] <;> decide +kernel)))) | ((with_reducible refine W2.o ?_; constructor); · (first | (with_reducible assumption) | (first | omega | (simp only [lens] <;> omega) | (decide +kernel) | (simp only [maxI_eq, pmGet_eq, pmHas_eq, pmPut_eq, pmClk_eq, pmDel_eq] <;> decide +kernel)))) | ((with_reducible refine W3.o ?_; constructor); · (first | (with_reducible assumption) | (first | omega | (simp only [lens] <;> omega) | (decide +kernel) | (simp only [maxI_eq, pmGet_eq, pmHas_eq, pmPut_eq, pmClk_eq, pmDel_eq] <;> decide +kernel)))) | ((with_reducible refine W4.o ?_; constructor); · (first | (with_reducible first | assumption | exact decide_eq_true rfl | exact sEq_self _) | ((with_reducible refine eqOK_i ?_); kernel_rfl) | (first | (exact hq) | (simp only [maxI_eq, pmGet_eq, pmHas_eq, pmPut_eq, pmClk_eq, pmDel_eq] <;> decide +kernel)))) | ((with_reducible refine iteB_f ?_ ?_); · (first | (with_reducible first | assumption | exact decide_eq_true rfl | exact sEq_self _) | ((with_reducible refine eqOK_i ?_); kernel_rfl) | (first | (exact hq) | (simp only [maxI_eq, pmGet_eq, pmHas_eq, pmPut_eq, pmClk_eq, pmDel_eq] <;> decide +kernel)))) | (refine ⟨⟨(i + 1, .pnd node writes (sent + 1) L false 0 (putM M (sent + 1) clk) (clkM M (sent + 1) clk), ls'), h'⟩, ?_, rfl, ?_⟩) | (with_reducible refine CD.wk_au ?_) | (with_reducible refine W5.o ?_; constructor) | ((with_reducible refine W6.o ?_; constructor) <;> intro hB))
    all_goals ((conv => whnf); (try dsimp only); (try simp only [Nat.succ_eq_add_one, Nat.le_eq, castL_self]); (try omega))
    all_goals (try (first | omega | (simp only [lens] <;> omega) | (decide +kernel) | (simp only [maxI_eq, pmGet_eq, pmHas_eq, pmPut_eq, pmClk_eq, pmDel_eq] <;> decide +kernel)))
    all_goals first
      | exact rfl
      | (rw [es]; exact rfl)
      | exact congrArg (fun z => [begR 0 0 getR z]) es
      | (rw [ew]; exact put_mp _ _ _ _ _)
      | (rw [ew]; exact clk_mp _ _ _ _ _)
      | (rw [ew]; exact (put_mp _ _ _ _ _).symm)
      | (rw [ew]; exact (clk_mp _ _ _ _ _).symm)
      | trace_state
end
end Go.Proofs.Ytlfhiophojahbaa
end

section
namespace Go.Proofs.Ytlfhiophojahbaa
open Go.Sym
set_option linter.unusedVariables false
set_option linter.unusedSimpArgs false
set_option maxRecDepth 100000
set_option maxHeartbeats 4000000
section
variable (idn nodes : Int) (l : List (Int × Int × Int)) (n i : Nat)
theorem rd_pndNot (node writes sent : Int) (L : List ClR) (send : Bool) (ticks : Int) (M : KM) (clk : Nat) (ls' : List LpD) (H : H27 idn nodes l n) (hlt : i < n) (ha : @Eq Int ((Sym.rowAt a3 l (Int.toNat (i : Int))).1 % 5) 3) (hc : hasM M ((sent - min sent ((Sym.rowAt a3 l (Int.toNat (i : Int))).2.1 % 4 % 18446744073709551616)) % 18446744073709551616) = false) (h : P27 idn nodes l n (i, .pnd node writes sent L send ticks M clk, [lpP idn nodes l i [(0, 0), (1, 10), (2, 11), (3, 12), (4, 4)] node writes sent L send ticks M clk])) (h' : P27 idn nodes l n (i + 1, .pnd node writes sent L send ticks M clk, ls')) : RG idn nodes l n i (.pnd node writes sent L send ticks M clk) [lpP idn nodes l i [(0, 0), (1, 10), (2, 11), (3, 12), (4, 4)] node writes sent L send ticks M clk] h := by
  obtain ⟨hn, hn3, hl, hr, hid, hno⟩ := H
  obtain ⟨⟨r1, r2⟩, ⟨r3, r4⟩, r5, r6⟩ := hr i hlt
  have es : ((i : Int) + 1) % 18446744073709551616 = (i : Int) + 1 := Int.emod_eq_of_lt (by omega) (by omega)
  obtain ⟨hi, ⟨v1, v2⟩, ⟨v3, v4⟩, ⟨v5, v6⟩, ⟨v7, v8⟩, v9, ⟨v10, v11⟩, v12, ⟨v13, v14⟩, v15⟩ := (⟨h.1, h.2.1⟩ : i ≤ n ∧ Inv27 idn nodes i (.pnd node writes sent L send ticks M clk))
  have ew : (sent + 1) % 18446744073709551616 = sent + 1 := Int.emod_eq_of_lt (by omega) (by omega)
  have ei : Int.toNat ((L.length : Int) - 1) = L.length - 1 := by omega
  have hq : (decide (@Eq Int (Sym.rowAt clC L (Int.toNat ((L.length : Int) - 1))).2.2.2.2.2.2.2.2.2.1 0) == true) = true := by rw [ei, decide_eq_true (show @Eq Int (Sym.rowAt clC L (L.length - 1)).2.2.2.2.2.2.2.2.2.1 0 from v10)]; rfl
  have hg : pmGet (.int .u64) .bool (mpV .bool true M) ((sent - min sent ((Sym.rowAt a3 l (Int.toNat (i : Int))).2.1 % 4 % 18446744073709551616)) % 18446744073709551616) false = false := by rw [get_mp, hc]; rfl
  have hgi : @Eq Int (pmGet (.int .u64) (.int .i64) (mpV (.int .i64) (1 : Int) M) ((sent - min sent ((Sym.rowAt a3 l (Int.toNat (i : Int))).2.1 % 4 % 18446744073709551616)) % 18446744073709551616) 0) 0 := by rw [get_mp, hc]; rfl
  have hd : delM M ((sent - min sent ((Sym.rowAt a3 l (Int.toNat (i : Int))).2.1 % 4 % 18446744073709551616)) % 18446744073709551616) = M := del_none hc
  repeat' ((conv => whnf); first | (with_reducible first | (refine W1.o ?_; constructor) | rfl | exact castL_self _ _) | ((with_reducible refine V.same_t ?_); exact rfl) | ((with_reducible refine andB_room ?_ ?_ ?_); (· kernel_rfl); (· (first | omega | (simp only [lens] <;> omega) | (decide +kernel) | (simp only [maxI_eq, pmGet_eq, pmHas_eq, pmPut_eq, pmClk_eq, pmDel_eq] <;> decide +kernel)))) | ((with_reducible refine W2.o ?_; constructor); · (first | (with_reducible assumption) | (first | omega | (simp only [lens] <;> omega) | (decide +kernel) | (simp only [maxI_eq, pmGet_eq, pmHas_eq, pmPut_eq, pmClk_eq, pmDel_eq] <;> decide +kernel)))) | ((with_reducible refine W3.o ?_; constructor); · (first | (with_reducible assumption) | (first | omega | (simp only [lens] <;> omega) | (decide +kernel) | (simp only [maxI_eq, pmGet_eq, pmHas_eq, pmPut_eq, pmClk_eq, pmDel_eq] <;> decide +kernel)))) | ((with_reducible refine W4.o ?_; constructor); · (first | (with_reducible first | assumption | exact decide_eq_true rfl | exact sEq_self _) | ((with_reducible refine eqOK_i ?_); kernel_rfl) | (first | (first | exact hq | exact hg) | (simp only [maxI_eq, pmGet_eq, pmHas_eq, pmPut_eq, pmClk_eq, pmDel_eq] <;> decide +kernel)))) | ((with_reducible refine iteB_f ?_ ?_); · (first | (with_reducible first | assumption | exact decide_eq_true rfl | exact sEq_self _) | ((with_reducible refine eqOK_i ?_); kernel_rfl) | (first | (first | exact hq | exact hg) | (simp only [maxI_eq, pmGet_eq, pmHas_eq, pmPut_eq, pmClk_eq, pmDel_eq] <;> decide +kernel)))) | (refine ⟨⟨(i + 1, .pnd node writes sent L send ticks M clk, ls'), h'⟩, ?_, rfl, ?_⟩) | (with_reducible refine CD.wk_au ?_) | (with_reducible refine W5.o ?_; constructor) | ((with_reducible refine W6.o ?_; constructor) <;> intro hB))
  all_goals ((conv => whnf); (try dsimp only); (try simp only [Nat.succ_eq_add_one, Nat.le_eq, castL_self]); (try omega))
  all_goals (try (first | omega | (simp only [lens] <;> omega) | (decide +kernel) | (simp only [maxI_eq, pmGet_eq, pmHas_eq, pmPut_eq, pmClk_eq, pmDel_eq] <;> decide +kernel)))
  all_goals first
    | exact rfl
    | (rw [es]; exact rfl)
    | exact congrArg (fun z => [begR 0 0 getR z]) es
    | exact ((del_mp _ _ _ _).trans (by rw [hd]))
    | exact ((del_mp _ _ _ _).trans (by rw [hd])).symm
    | trace_state
theorem rd_pndOff (node writes sent : Int) (L : List ClR) (send : Bool) (ticks : Int) (M : KM) (clk : Nat) (ls' : List LpD) (H : H27 idn nodes l n) (hlt : i < n) (ha : @Eq Int ((Sym.rowAt a3 l (Int.toNat (i : Int))).1 % 5) 3) (hb : @Eq Int ((Sym.rowAt a3 l (Int.toNat (i : Int))).2.2 % 3) 0) (hc : hasM M ((sent - min sent ((Sym.rowAt a3 l (Int.toNat (i : Int))).2.1 % 4 % 18446744073709551616)) % 18446744073709551616) = true) (hm : 0 < (delM M ((sent - min sent ((Sym.rowAt a3 l (Int.toNat (i : Int))).2.1 % 4 % 18446744073709551616)) % 18446744073709551616)).length) (h : P27 idn nodes l n (i, .pnd node writes sent L send ticks M clk, [lpP idn nodes l i [(0, 0), (1, 11), (2, 12), (3, 13), (4, 4)] node writes sent L send ticks (delM M ((sent - min sent ((Sym.rowAt a3 l (Int.toNat (i : Int))).2.1 % 4 % 18446744073709551616)) % 18446744073709551616)) clk])) (h' : P27 idn nodes l n (i + 1, .pnd node writes sent L send ticks (delM M ((sent - min sent ((Sym.rowAt a3 l (Int.toNat (i : Int))).2.1 % 4 % 18446744073709551616)) % 18446744073709551616)) clk, ls')) : RG idn nodes l n i (.pnd node writes sent L send ticks M clk) [lpP idn nodes l i [(0, 0), (1, 11), (2, 12), (3, 13), (4, 4)] node writes sent L send ticks (delM M ((sent - min sent ((Sym.rowAt a3 l (Int.toNat (i : Int))).2.1 % 4 % 18446744073709551616)) % 18446744073709551616)) clk] h := by
  obtain ⟨hn, hn3, hl, hr, hid, hno⟩ := H
  obtain ⟨⟨r1, r2⟩, ⟨r3, r4⟩, r5, r6⟩ := hr i hlt
  have es : ((i : Int) + 1) % 18446744073709551616 = (i : Int) + 1 := Int.emod_eq_of_lt (by omega) (by omega)
  obtain ⟨hi, ⟨v1, v2⟩, ⟨v3, v4⟩, ⟨v5, v6⟩, ⟨v7, v8⟩, v9, ⟨v10, v11⟩, v12, ⟨v13, v14⟩, v15⟩ := (⟨h.1, h.2.1⟩ : i ≤ n ∧ Inv27 idn nodes i (.pnd node writes sent L send ticks M clk))
  have ew : (sent + 1) % 18446744073709551616 = sent + 1 := Int.emod_eq_of_lt (by omega) (by omega)
  have ei : Int.toNat ((L.length : Int) - 1) = L.length - 1 := by omega
  have hq : (decide (@Eq Int (Sym.rowAt clC L (Int.toNat ((L.length : Int) - 1))).2.2.2.2.2.2.2.2.2.1 0) == true) = true := by rw [ei, decide_eq_true (show @Eq Int (Sym.rowAt clC L (L.length - 1)).2.2.2.2.2.2.2.2.2.1 0 from v10)]; rfl
  have hg : pmGet (.int .u64) .bool (mpV .bool true M) ((sent - min sent ((Sym.rowAt a3 l (Int.toNat (i : Int))).2.1 % 4 % 18446744073709551616)) % 18446744073709551616) false = true := by rw [get_mp, hc]; rfl
  have hgi : @Eq Int (pmGet (.int .u64) (.int .i64) (mpV (.int .i64) (1 : Int) M) ((sent - min sent ((Sym.rowAt a3 l (Int.toNat (i : Int))).2.1 % 4 % 18446744073709551616)) % 18446744073709551616) 0) 1 := by rw [get_mp, hc]; rfl
  have hm2 : 0 < (pmDel (.int .u64) .bool (mpV .bool true M) ((sent - min sent ((Sym.rowAt a3 l (Int.toNat (i : Int))).2.1 % 4 % 18446744073709551616)) % 18446744073709551616)).length := by rw [del_mp, mp_len]; exact hm
  repeat' ((conv => whnf); first | (with_reducible first | (refine W1.o ?_; constructor) | rfl | exact castL_self _ _) | ((with_reducible refine V.same_t ?_); exact rfl) | ((with_reducible refine andB_room ?_ ?_ ?_); (· kernel_rfl); (· (first | omega | (simp only [lens] <;> omega) | (decide +kernel) | (simp only [maxI_eq, pmGet_eq, pmHas_eq, pmPut_eq, pmClk_eq, pmDel_eq] <;> decide +kernel)))) | ((with_reducible refine W2.o ?_; constructor); · (first | (with_reducible assumption) | (first | omega | (simp only [lens] <;> omega) | (decide +kernel) | (simp only [maxI_eq, pmGet_eq, pmHas_eq, pmPut_eq, pmClk_eq, pmDel_eq] <;> decide +kernel)))) | ((with_reducible refine W3.o ?_; constructor); · (first | (with_reducible assumption) | (first | omega | (simp only [lens] <;> omega) | (decide +kernel) | (simp only [maxI_eq, pmGet_eq, pmHas_eq, pmPut_eq, pmClk_eq, pmDel_eq] <;> decide +kernel)))) | ((with_reducible refine W4.o ?_; constructor); · (first | (with_reducible first | assumption | exact decide_eq_true rfl | exact sEq_self _) | ((with_reducible refine eqOK_i ?_); kernel_rfl) | (first | (first | exact hq | exact hg) | (simp only [maxI_eq, pmGet_eq, pmHas_eq, pmPut_eq, pmClk_eq, pmDel_eq] <;> decide +kernel)))) | ((with_reducible refine iteB_f ?_ ?_); · (first | (with_reducible first | assumption | exact decide_eq_true rfl | exact sEq_self _) | ((with_reducible refine eqOK_i ?_); kernel_rfl) | (first | (first | exact hq | exact hg) | (simp only [maxI_eq, pmGet_eq, pmHas_eq, pmPut_eq, pmClk_eq, pmDel_eq] <;> decide +kernel)))) | (refine ⟨⟨(i + 1, .pnd node writes sent L send ticks (delM M ((sent - min sent ((Sym.rowAt a3 l (Int.toNat (i : Int))).2.1 % 4 % 18446744073709551616)) % 18446744073709551616)) clk, ls'), h'⟩, ?_, rfl, ?_⟩) | (with_reducible refine CD.wk_au ?_) | (with_reducible refine W5.o ?_; constructor) | ((with_reducible refine W6.o ?_; constructor) <;> intro hB))
  all_goals ((conv => whnf); (try dsimp only); (try simp only [Nat.succ_eq_add_one, Nat.le_eq, castL_self]); (try omega))
  all_goals (try (first | omega | (simp only [lens] <;> omega) | (decide +kernel) | (simp only [maxI_eq, pmGet_eq, pmHas_eq, pmPut_eq, pmClk_eq, pmDel_eq] <;> decide +kernel)))
  all_goals first
    | exact rfl
    | (rw [es]; exact rfl)
    | exact congrArg (fun z => [begR 0 0 getR z]) es
    | exact del_mp _ _ _ _
    | exact (del_mp _ _ _ _).symm
    | trace_state
end
end Go.Proofs.Ytlfhiophojahbaa
end

section
namespace Go.Proofs.Ytlfhiophojahbaa
open Go.Sym
set_option linter.unusedVariables false
set_option linter.unusedSimpArgs false
set_option maxRecDepth 100000
set_option maxHeartbeats 4000000
section
variable (idn nodes : Int) (l : List (Int × Int × Int)) (n i : Nat)
theorem rd_pndElse (node writes sent : Int) (L : List ClR) (send : Bool) (ticks : Int) (M : KM) (clk : Nat) (ls' : List LpD) (H : H27 idn nodes l n) (hlt : i < n) (ha : @Eq Int ((Sym.rowAt a3 l (Int.toNat (i : Int))).1 % 5) 3) (hb : @Eq Int ((Sym.rowAt a3 l (Int.toNat (i : Int))).2.2 % 3) 0) (hc : hasM M ((sent - min sent ((Sym.rowAt a3 l (Int.toNat (i : Int))).2.1 % 4 % 18446744073709551616)) % 18446744073709551616) = true) (hm : (delM M ((sent - min sent ((Sym.rowAt a3 l (Int.toNat (i : Int))).2.1 % 4 % 18446744073709551616)) % 18446744073709551616)).length = 0) (h : P27 idn nodes l n (i, .pnd node writes sent L send ticks M clk, [lpP idn nodes l i [(0, 0), (1, 11), (2, 12), (3, 13), (4, 4)] (elseN nodes ((Sym.rowAt a3 l (Int.toNat (i : Int))).2.1 % nodes) ((Sym.rowAt a3 l (Int.toNat (i : Int))).2.2 % 9 - 1)) writes sent L true ticks (delM M ((sent - min sent ((Sym.rowAt a3 l (Int.toNat (i : Int))).2.1 % 4 % 18446744073709551616)) % 18446744073709551616)) clk])) (h' : P27 idn nodes l n (i + 1, .pnd (elseN nodes ((Sym.rowAt a3 l (Int.toNat (i : Int))).2.1 % nodes) ((Sym.rowAt a3 l (Int.toNat (i : Int))).2.2 % 9 - 1)) writes sent L true ticks (delM M ((sent - min sent ((Sym.rowAt a3 l (Int.toNat (i : Int))).2.1 % 4 % 18446744073709551616)) % 18446744073709551616)) clk, ls')) : RG idn nodes l n i (.pnd node writes sent L send ticks M clk) [lpP idn nodes l i [(0, 0), (1, 11), (2, 12), (3, 13), (4, 4)] (elseN nodes ((Sym.rowAt a3 l (Int.toNat (i : Int))).2.1 % nodes) ((Sym.rowAt a3 l (Int.toNat (i : Int))).2.2 % 9 - 1)) writes sent L true ticks (delM M ((sent - min sent ((Sym.rowAt a3 l (Int.toNat (i : Int))).2.1 % 4 % 18446744073709551616)) % 18446744073709551616)) clk] h := by
  obtain ⟨hn, hn3, hl, hr, hid, hno⟩ := H
  obtain ⟨⟨r1, r2⟩, ⟨r3, r4⟩, r5, r6⟩ := hr i hlt
  have es : ((i : Int) + 1) % 18446744073709551616 = (i : Int) + 1 := Int.emod_eq_of_lt (by omega) (by omega)
  obtain ⟨hi, ⟨v1, v2⟩, ⟨v3, v4⟩, ⟨v5, v6⟩, ⟨v7, v8⟩, v9, ⟨v10, v11⟩, v12, ⟨v13, v14⟩, v15⟩ := (⟨h.1, h.2.1⟩ : i ≤ n ∧ Inv27 idn nodes i (.pnd node writes sent L send ticks M clk))
  have ew : (sent + 1) % 18446744073709551616 = sent + 1 := Int.emod_eq_of_lt (by omega) (by omega)
  have ei : Int.toNat ((L.length : Int) - 1) = L.length - 1 := by omega
  have hq : (decide (@Eq Int (Sym.rowAt clC L (Int.toNat ((L.length : Int) - 1))).2.2.2.2.2.2.2.2.2.1 0) == true) = true := by rw [ei, decide_eq_true (show @Eq Int (Sym.rowAt clC L (L.length - 1)).2.2.2.2.2.2.2.2.2.1 0 from v10)]; rfl
  have hg : pmGet (.int .u64) .bool (mpV .bool true M) ((sent - min sent ((Sym.rowAt a3 l (Int.toNat (i : Int))).2.1 % 4 % 18446744073709551616)) % 18446744073709551616) false = true := by rw [get_mp, hc]; rfl
  have hgi : @Eq Int (pmGet (.int .u64) (.int .i64) (mpV (.int .i64) (1 : Int) M) ((sent - min sent ((Sym.rowAt a3 l (Int.toNat (i : Int))).2.1 % 4 % 18446744073709551616)) % 18446744073709551616) 0) 1 := by rw [get_mp, hc]; rfl
  have hm2 : (pmDel (.int .u64) .bool (mpV .bool true M) ((sent - min sent ((Sym.rowAt a3 l (Int.toNat (i : Int))).2.1 % 4 % 18446744073709551616)) % 18446744073709551616)).length = 0 := by rw [del_mp, mp_len]; exact hm
  obtain ⟨nd, end_⟩ : ∃ nd : Int, @Eq Int nd ((Sym.rowAt a3 l (Int.toNat (i : Int))).2.1 % nodes) := ⟨_, rfl⟩
  obtain ⟨ld, eld⟩ : ∃ ld : Int, @Eq Int ld ((Sym.rowAt a3 l (Int.toNat (i : Int))).2.2 % 9 - 1) := ⟨_, rfl⟩
  have b1 : 0 ≤ nd := by rw [end_]; exact Int.emod_nonneg _ (by omega)
  have b2 : nd < nodes := by rw [end_]; exact Int.emod_lt_of_pos _ (by omega)
  have b3 : nd % nodes = nd := Int.emod_eq_of_lt b1 b2
  have b4 : @Eq Int ((Sym.rowAt a3 l (Int.toNat (i : Int))).2.1 % nodes % nodes) nd := by rw [← end_]; exact b3
  have b5 : 0 ≤ (nd + nodes + 1) % nodes := Int.emod_nonneg _ (by omega)
  have b6 : @Eq Int (((Sym.rowAt a3 l (Int.toNat (i : Int))).2.1 % nodes % nodes + nodes + 1) % nodes) ((nd + nodes + 1) % nodes) := by rw [b4]
  have hcs : (@Eq Int (elseN nodes ((Sym.rowAt a3 l (Int.toNat (i : Int))).2.1 % nodes) ((Sym.rowAt a3 l (Int.toNat (i : Int))).2.2 % 9 - 1)) ld ∧ 0 ≤ ld ∧ ld < nodes ∧ ¬ ld = nd) ∨ (@Eq Int (elseN nodes ((Sym.rowAt a3 l (Int.toNat (i : Int))).2.1 % nodes) ((Sym.rowAt a3 l (Int.toNat (i : Int))).2.2 % 9 - 1)) (((Sym.rowAt a3 l (Int.toNat (i : Int))).2.1 % nodes % nodes + nodes + 1) % nodes) ∧ (ld < 0 ∨ nodes ≤ ld ∨ ld = nd)) := by
    rw [← end_, ← eld]
    by_cases q : 0 ≤ ld ∧ ld < nodes ∧ ¬ ld = nd
    · exact Or.inl ⟨elseN_yes q, q⟩
    · exact Or.inr ⟨elseN_no q, by omega⟩
  rcases hcs with ⟨en, z1, z2, z3⟩ | ⟨en, z | z | z⟩
  all_goals
    repeat' ((conv => whnf); first | (with_reducible first | (refine W1.o ?_; constructor) | rfl | exact castL_self _ _) | ((with_reducible refine V.same_t ?_); exact rfl) | ((with_reducible refine andB_room ?_ ?_ ?_); (· kernel_rfl); (· (first | omega | (simp only [lens] <;> omega) | (decide +kernel) | (simp only [maxI_eq, pmGet_eq, pmHas_eq, pmPut_eq, pmClk_eq, pmDel_eq] <;> decide +kernel)))) | ((with_reducible refine W2.o ?_; constructor); · (first | (with_reducible assumption) | (first | omega | (simp only [lens] <;> omega) | (decide +kernel) | (simp only [maxI_eq, pmGet_eq, pmHas_eq, pmPut_eq, pmClk_eq, pmDel_eq] <;> decide +kernel)))) | ((with_reducible refine W3.o ?_; constructor); · (first | (with_reducible assumption) | (first | omega | (simp only [lens] <;> omega) | (decide +kernel) | (simp only [maxI_eq, pmGet_eq, pmHas_eq, pmPut_eq, pmClk_eq, pmDel_eq] <;> decide +kernel)))) | ((with_reducible refine W4.o ?_; constructor); · (first | (with_reducible first | assumption | exact decide_eq_true rfl | exact sEq_self _) | ((with_reducible refine eqOK_i ?_); kernel_rfl) | (first | (first | exact hq | exact hg) | (simp only [maxI_eq, pmGet_eq, pmHas_eq, pmPut_eq, pmClk_eq, pmDel_eq] <;> decide +kernel)))) | ((with_reducible refine iteB_f ?_ ?_); · (first | (with_reducible first | assumption | exact decide_eq_true rfl | exact sEq_self _) | ((with_reducible refine eqOK_i ?_); kernel_rfl) | (first | (first | exact hq | exact hg) | (simp only [maxI_eq, pmGet_eq, pmHas_eq, pmPut_eq, pmClk_eq, pmDel_eq] <;> decide +kernel)))) | (refine ⟨⟨(i + 1, .pnd (elseN nodes ((Sym.rowAt a3 l (Int.toNat (i : Int))).2.1 % nodes) ((Sym.rowAt a3 l (Int.toNat (i : Int))).2.2 % 9 - 1)) writes sent L true ticks (delM M ((sent - min sent ((Sym.rowAt a3 l (Int.toNat (i : Int))).2.1 % 4 % 18446744073709551616)) % 18446744073709551616)) clk, ls'), h'⟩, ?_, rfl, ?_⟩) | (with_reducible refine CD.wk_au ?_) | (with_reducible refine W5.o ?_; constructor) | ((with_reducible refine W6.o ?_; constructor) <;> intro hB))
    all_goals ((conv => whnf); (try dsimp only); (try simp only [Nat.succ_eq_add_one, Nat.le_eq, castL_self]); (try omega))
    all_goals (try (first | omega | (simp only [lens] <;> omega) | (decide +kernel) | (simp only [maxI_eq, pmGet_eq, pmHas_eq, pmPut_eq, pmClk_eq, pmDel_eq] <;> decide +kernel)))
    all_goals first
      | exact rfl
      | (rw [es]; exact rfl)
      | exact congrArg (fun z => [begR 0 0 getR z]) es
      | exact del_mp _ _ _ _
      | exact (del_mp _ _ _ _).symm
      | exact en.symm
      | (rw [en]; exact eld.symm)
      | exact (en.trans eld).symm
      | trace_state
end
end Go.Proofs.Ytlfhiophojahbaa
end

section
namespace Go.Proofs.Ytlfhiophojahbaa
open Go.Sym
set_option linter.unusedVariables false
set_option linter.unusedSimpArgs false
set_option maxRecDepth 100000
set_option maxHeartbeats 4000000
section
variable (idn nodes : Int) (l : List (Int × Int × Int)) (n i : Nat)
theorem rd_pndDone (node writes sent : Int) (L : List ClR) (send : Bool) (ticks : Int) (M : KM) (clk : Nat) (ls' : List LpD) (H : H27 idn nodes l n) (hlt : i < n) (ha : @Eq Int ((Sym.rowAt a3 l (Int.toNat (i : Int))).1 % 5) 3) (hb : ¬ @Eq Int ((Sym.rowAt a3 l (Int.toNat (i : Int))).2.2 % 3) 0) (hc : hasM M ((sent - min sent ((Sym.rowAt a3 l (Int.toNat (i : Int))).2.1 % 4 % 18446744073709551616)) % 18446744073709551616) = true) (h : P27 idn nodes l n (i, .pnd node writes sent L send ticks M clk, [lpI idn nodes l i [(0, 0), (1, 12), (2, 11)] node writes sent (doneL L ((i : Int) + 1) ((Sym.rowAt a3 l (Int.toNat (i : Int))).2.1 % nodes) ((i : Int) + 1))])) (h' : P27 idn nodes l n (i + 1, .idl node writes sent (doneL L ((i : Int) + 1) ((Sym.rowAt a3 l (Int.toNat (i : Int))).2.1 % nodes) ((i : Int) + 1)), ls')) : RG idn nodes l n i (.pnd node writes sent L send ticks M clk) [lpI idn nodes l i [(0, 0), (1, 12), (2, 11)] node writes sent (doneL L ((i : Int) + 1) ((Sym.rowAt a3 l (Int.toNat (i : Int))).2.1 % nodes) ((i : Int) + 1))] h := by
  obtain ⟨hn, hn3, hl, hr, hid, hno⟩ := H
  obtain ⟨⟨r1, r2⟩, ⟨r3, r4⟩, r5, r6⟩ := hr i hlt
  have es : ((i : Int) + 1) % 18446744073709551616 = (i : Int) + 1 := Int.emod_eq_of_lt (by omega) (by omega)
  obtain ⟨hi, ⟨v1, v2⟩, ⟨v3, v4⟩, ⟨v5, v6⟩, ⟨v7, v8⟩, v9, ⟨v10, v11⟩, v12, ⟨v13, v14⟩, v15⟩ := (⟨h.1, h.2.1⟩ : i ≤ n ∧ Inv27 idn nodes i (.pnd node writes sent L send ticks M clk))
  have ew : (sent + 1) % 18446744073709551616 = sent + 1 := Int.emod_eq_of_lt (by omega) (by omega)
  have ei : Int.toNat ((L.length : Int) - 1) = L.length - 1 := by omega
  have hq : (decide (@Eq Int (Sym.rowAt clC L (Int.toNat ((L.length : Int) - 1))).2.2.2.2.2.2.2.2.2.1 0) == true) = true := by rw [ei, decide_eq_true (show @Eq Int (Sym.rowAt clC L (L.length - 1)).2.2.2.2.2.2.2.2.2.1 0 from v10)]; rfl
  have hg : pmGet (.int .u64) .bool (mpV .bool true M) ((sent - min sent ((Sym.rowAt a3 l (Int.toNat (i : Int))).2.1 % 4 % 18446744073709551616)) % 18446744073709551616) false = true := by rw [get_mp, hc]; rfl
  have hgi : @Eq Int (pmGet (.int .u64) (.int .i64) (mpV (.int .i64) (1 : Int) M) ((sent - min sent ((Sym.rowAt a3 l (Int.toNat (i : Int))).2.1 % 4 % 18446744073709551616)) % 18446744073709551616) 0) 1 := by rw [get_mp, hc]; rfl
  have ej : 0 + Int.toNat ((L.length : Int) - 1) = L.length - 1 := by omega
  have hset := fun x => row_set (L := L) (i := L.length - 1) (by omega) x
  have ed := doneL_eq L ((i : Int) + 1) ((Sym.rowAt a3 l (Int.toNat (i : Int))).2.1 % nodes) ((i : Int) + 1)
  have eln : (doneL L ((i : Int) + 1) ((Sym.rowAt a3 l (Int.toNat (i : Int))).2.1 % nodes) ((i : Int) + 1)).length = L.length := doneL_len ..
  have hq2 : (decide (@Eq Int (Sym.rowAt clC (doneL L ((i : Int) + 1) ((Sym.rowAt a3 l (Int.toNat (i : Int))).2.1 % nodes) ((i : Int) + 1)) (Int.toNat (((doneL L ((i : Int) + 1) ((Sym.rowAt a3 l (Int.toNat (i : Int))).2.1 % nodes) ((i : Int) + 1)).length : Int) - 1))).2.2.2.2.2.2.2.2.2.1 0) == false) = true := by
    have e3 := lst_done (L := L) (step := (i : Int) + 1) (nd := (Sym.rowAt a3 l (Int.toNat (i : Int))).2.1 % nodes) (rev := (i : Int) + 1) v7
    unfold lstC rwC at e3
    rw [eln] at e3 ⊢
    rw [ei, e3, decide_eq_false (show ¬ @Eq Int (max ((i : Int) + 1) 1) 0 by omega)]; rfl
  have hl2 : True := trivial
  repeat' ((conv => whnf); first | (with_reducible first | (refine W1.o ?_; constructor) | rfl | exact castL_self _ _) | ((with_reducible refine V.same_t ?_); exact rfl) | ((with_reducible refine andB_room ?_ ?_ ?_); (· kernel_rfl); (· (first | omega | (simp only [lens] <;> omega) | (decide +kernel) | (simp only [maxI_eq, pmGet_eq, pmHas_eq, pmPut_eq, pmClk_eq, pmDel_eq] <;> decide +kernel)))) | ((with_reducible refine W2.o ?_; constructor); · (first | (with_reducible assumption) | (first | omega | (simp only [lens] <;> omega) | (decide +kernel) | (simp only [maxI_eq, pmGet_eq, pmHas_eq, pmPut_eq, pmClk_eq, pmDel_eq] <;> decide +kernel)))) | ((with_reducible refine W3.o ?_; constructor); · (first | (with_reducible assumption) | (first | omega | (simp only [lens] <;> omega) | (decide +kernel) | (simp only [maxI_eq, pmGet_eq, pmHas_eq, pmPut_eq, pmClk_eq, pmDel_eq] <;> decide +kernel)))) | ((with_reducible refine W4.o ?_; constructor); · (first | (with_reducible first | assumption | exact decide_eq_true rfl | exact sEq_self _) | ((with_reducible refine eqOK_i ?_); kernel_rfl) | (first | (first | exact hq2 | exact hg | exact hl2) | (simp only [maxI_eq, pmGet_eq, pmHas_eq, pmPut_eq, pmClk_eq, pmDel_eq] <;> decide +kernel)))) | ((with_reducible refine iteB_f ?_ ?_); · (first | (with_reducible first | assumption | exact decide_eq_true rfl | exact sEq_self _) | ((with_reducible refine eqOK_i ?_); kernel_rfl) | (first | (first | exact hq2 | exact hg | exact hl2) | (simp only [maxI_eq, pmGet_eq, pmHas_eq, pmPut_eq, pmClk_eq, pmDel_eq] <;> decide +kernel)))) | (refine ⟨⟨(i + 1, .idl node writes sent (doneL L ((i : Int) + 1) ((Sym.rowAt a3 l (Int.toNat (i : Int))).2.1 % nodes) ((i : Int) + 1)), ls'), h'⟩, ?_, rfl, ?_⟩) | (with_reducible refine CD.wk_au ?_) | ((with_reducible refine W2.o ?_; constructor); · (simp only [List.length_set, lens] <;> omega)) | ((with_reducible refine W3.o ?_; constructor); · (simp only [List.length_set, lens] <;> omega)) | (with_reducible refine W5.o ?_; constructor) | ((with_reducible refine W6.o ?_; constructor) <;> intro hB))
  all_goals ((conv => whnf); (try dsimp only); (try simp only [Nat.succ_eq_add_one, Nat.le_eq, castL_self]); (try omega))
  all_goals (try (first | omega | (simp only [lens] <;> omega) | (decide +kernel) | (simp only [maxI_eq, pmGet_eq, pmHas_eq, pmPut_eq, pmClk_eq, pmDel_eq] <;> decide +kernel)))
  all_goals first
    | exact rfl
    | (rw [es]; exact rfl)
    | exact congrArg (fun z => [begR 0 0 getR z]) es
    | (simp only [ej, ed, hset, List.set_set, List.length_set, maxI_eq, es]; done)
    | (simp only [List.length_set, lens] <;> omega)
    | trace_state
end
end Go.Proofs.Ytlfhiophojahbaa
end
