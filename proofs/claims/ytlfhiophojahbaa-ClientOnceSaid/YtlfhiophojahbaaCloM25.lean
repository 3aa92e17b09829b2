/-
  Texts of this claim, one behind the other: ClTik ClOnA ClOnB ClOnC. Each says its own conditions.
-/
import Derived.Test.YtlfhiophojahbaaCloM24

set_option linter.unusedVariables false
set_option linter.unusedSimpArgs false
set_option linter.unusedSectionVars false
section
namespace Go.Proofs.Ytlfhiophojahbaa
open Go.Sym
set_option linter.unusedVariables false
set_option linter.unusedSimpArgs false
set_option maxRecDepth 100000
set_option maxHeartbeats 4000000
noncomputable def tk0 (nodes : Int) (s : Int × Bool × Int) : Nat → Int × Bool × Int
  | 0 => s
  | k + 1 => if (tk0 nodes s k).2.1 = true then tk0 nodes s k else if (tk0 nodes s k).2.2 + 1 = 20 then (((tk0 nodes s k).1 + 1) % nodes, true, (tk0 nodes s k).2.2 + 1) else ((tk0 nodes s k).1, false, (tk0 nodes s k).2.2 + 1)
noncomputable def tkN : Int → Int × Bool × Int → Nat → Int := hide fun n s k => (tk0 n s k).1
noncomputable def tkS : Int → Int × Bool × Int → Nat → Bool := hide fun n s k => (tk0 n s k).2.1
noncomputable def tkT : Int → Int × Bool × Int → Nat → Int := hide fun n s k => (tk0 n s k).2.2
section
variable (n : Int) (s : Int × Bool × Int)
theorem tkN_eq (k : Nat) : tkN n s k = (tk0 n s k).1 := by unfold tkN; rw [hide_eq]
theorem tkS_eq (k : Nat) : tkS n s k = (tk0 n s k).2.1 := by unfold tkS; rw [hide_eq]
theorem tkT_eq (k : Nat) : tkT n s k = (tk0 n s k).2.2 := by unfold tkT; rw [hide_eq]
theorem tk_0 : tkN n s 0 = s.1 ∧ tkS n s 0 = s.2.1 ∧ tkT n s 0 = s.2.2 := by rw [tkN_eq, tkS_eq, tkT_eq]; exact ⟨rfl, rfl, rfl⟩
theorem tk_stop {k : Nat} (h : tkS n s k = true) : tkN n s (k + 1) = tkN n s k ∧ tkS n s (k + 1) = true ∧ tkT n s (k + 1) = tkT n s k := by
  rw [tkS_eq] at h
  rw [tkN_eq, tkN_eq, tkS_eq, tkT_eq, tkT_eq, tk0, if_pos h]; exact ⟨rfl, h, rfl⟩
theorem tk_fire {k : Nat} (h : tkS n s k = false) (h2 : tkT n s k + 1 = 20) : tkN n s (k + 1) = (tkN n s k + 1) % n ∧ tkS n s (k + 1) = true ∧ tkT n s (k + 1) = tkT n s k + 1 := by
  rw [tkS_eq] at h
  rw [tkT_eq] at h2
  rw [tkN_eq, tkN_eq, tkS_eq, tkT_eq, tkT_eq, tk0, if_neg (by rw [h]; decide), if_pos h2]; exact ⟨rfl, rfl, rfl⟩
theorem tk_go {k : Nat} (h : tkS n s k = false) (h2 : ¬ tkT n s k + 1 = 20) : tkN n s (k + 1) = tkN n s k ∧ tkS n s (k + 1) = false ∧ tkT n s (k + 1) = tkT n s k + 1 := by
  rw [tkS_eq] at h
  rw [tkT_eq] at h2
  rw [tkN_eq, tkN_eq, tkS_eq, tkT_eq, tkT_eq, tk0, if_neg (by rw [h]; decide), if_neg h2]; exact ⟨rfl, rfl, rfl⟩
theorem tk_in (hn : 1 ≤ n) (h1 : 0 ≤ s.1 ∧ s.1 < n) (h2 : 0 ≤ s.2.2 ∧ s.2.2 ≤ 20) (h3 : s.2.1 = false → s.2.2 < 20) : ∀ k, (0 ≤ tkN n s k ∧ tkN n s k < n) ∧ (0 ≤ tkT n s k ∧ tkT n s k ≤ 20) ∧ (tkS n s k = false → tkT n s k < 20)
  | 0 => by
    obtain ⟨e1, e2, e3⟩ := tk_0 n s
    rw [e1, e2, e3]; exact ⟨h1, h2, h3⟩
  | k + 1 => by
    obtain ⟨i1, i2, i3⟩ := tk_in hn h1 h2 h3 k
    cases hs : tkS n s k with
    | true =>
      obtain ⟨e1, e2, e3⟩ := tk_stop n s hs
      rw [e1, e2, e3]; exact ⟨i1, i2, fun h => by cases h⟩
    | false =>
      have i3 := i3 hs
      by_cases ht : tkT n s k + 1 = 20
      · obtain ⟨e1, e2, e3⟩ := tk_fire n s hs ht
        rw [e1, e2, e3]
        exact ⟨⟨Int.emod_nonneg _ (by omega), Int.emod_lt_of_pos _ (by omega)⟩, by omega, fun h => by cases h⟩
      · obtain ⟨e1, e2, e3⟩ := tk_go n s hs ht
        rw [e1, e2, e3]
        exact ⟨i1, by omega, fun _ => by omega⟩
end
section
variable (idn nodes node writes sent : Int) (l : List (Int × Int × Int)) (L : List ClR) (send : Bool) (ticks : Int) (M : KM) (clk : Nat) (i : Nat)
noncomputable def tkC (step : Int) (k : Nat) : CD := ⟨331, outS idn nodes writes sent l i step 4 ++ [(12, .lst clC L false), (24, .int .i64 (k : Int))], [], pndH idn nodes (tkN nodes (node, send, ticks) k) writes sent L (tkS nodes (node, send, ticks) k) (tkT nodes (node, send, ticks) k) M clk, 5⟩
theorem tk_loop (step : Int) (n : Nat) (hi : i < l.length) (hl : l.length ≤ 9223372036854775807) (hr : @LE.le Int _ 0 (Sym.rowAt a3 l (Int.toNat (i : Int))).2.1 ∧ @LT.lt Int _ (Sym.rowAt a3 l (Int.toNat (i : Int))).2.1 256) (hn : @Eq Int (n : Int) ((Sym.rowAt a3 l (Int.toNat (i : Int))).2.1 % 30)) (hno : 1 ≤ nodes ∧ nodes ≤ 7) (h1 : 0 ≤ node ∧ node < nodes) (h2 : 0 ≤ ticks ∧ ticks ≤ 20) (h3 : send = false → ticks < 20) (N : Nat) : LpD.ok Try.prog N 0 (bodyOf Try.prog 5) ⟨15, [(0, 0), (1, 1), (2, 2), (3, 3), (4, 4)], tkC idn nodes node writes sent l L send ticks M clk i step 0, .leaf (.exit 3) (tkC idn nodes node writes sent l L send ticks M clk i step n)⟩ := by
  refine LpD.ok_one (b := bodyAt Try.prog 5 15) rfl (loop_W noTab_ok (fuel := 3) (d := 4) (X := { k : Nat // k ≤ n }) (fun x => tkC idn nodes node writes sent l L send ticks M clk i step x.1) (fun x => n - x.1)
    (fun _ => .leaf (.exit 3) (tkC idn nodes node writes sent l L send ticks M clk i step n)) (fun _ => noLpW) (fun _ => noLp) (fun _ => noLp_ad) (fun _ => noLp_ok _) ?_ ⟨0, Nat.zero_le _⟩)
  rintro ⟨k, hk⟩
  dsimp only
  obtain ⟨i1, i2, i3⟩ := tk_in nodes (node, send, ticks) hno.1 h1 h2 h3 k
  rcases Nat.lt_or_ge k n with hlt | hge
  · cases hs : tkS nodes (node, send, ticks) k with
    | true =>
      obtain ⟨e1, e2, e3⟩ := tk_stop nodes (node, send, ticks) hs
      repeat' ((conv => whnf); first | (with_reducible first | (refine W1.o ?_; constructor) | rfl | exact castL_self _ _) | ((with_reducible refine V.same_t ?_); exact rfl) | ((with_reducible refine andB_room ?_ ?_ ?_); (· kernel_rfl); (· (first | omega | (simp only [lens] <;> omega) | (decide +kernel) | (simp only [maxI_eq, pmGet_eq, pmHas_eq, pmPut_eq, pmClk_eq, pmDel_eq] <;> decide +kernel)))) | ((with_reducible refine W2.o ?_; constructor); · (first | (with_reducible assumption) | (first | omega | (simp only [lens] <;> omega) | (decide +kernel) | (simp only [maxI_eq, pmGet_eq, pmHas_eq, pmPut_eq, pmClk_eq, pmDel_eq] <;> decide +kernel)))) | ((with_reducible refine W3.o ?_; constructor); · (first | (with_reducible assumption) | (first | omega | (simp only [lens] <;> omega) | (decide +kernel) | (simp only [maxI_eq, pmGet_eq, pmHas_eq, pmPut_eq, pmClk_eq, pmDel_eq] <;> decide +kernel)))) | ((with_reducible refine W4.o ?_; constructor); · (first | (with_reducible first | assumption | exact decide_eq_true rfl | exact sEq_self _) | ((with_reducible refine eqOK_i ?_); kernel_rfl) | (first | (first | exact hs | exact e2) | (simp only [maxI_eq, pmGet_eq, pmHas_eq, pmPut_eq, pmClk_eq, pmDel_eq] <;> decide +kernel)))) | ((with_reducible refine iteB_f ?_ ?_); · (first | (with_reducible first | assumption | exact decide_eq_true rfl | exact sEq_self _) | ((with_reducible refine eqOK_i ?_); kernel_rfl) | (first | (first | exact hs | exact e2) | (simp only [maxI_eq, pmGet_eq, pmHas_eq, pmPut_eq, pmClk_eq, pmDel_eq] <;> decide +kernel)))) | (refine ⟨⟨k + 1, hlt⟩, ?_, rfl, ?_⟩) | (with_reducible refine CD.wk_au ?_) | (with_reducible refine W5.o ?_; constructor) | ((with_reducible refine W6.o ?_; constructor) <;> intro hB))
      all_goals ((conv => whnf); (try dsimp only); (try simp only [Nat.succ_eq_add_one, Nat.le_eq, castL_self]); (try omega))
      all_goals (try (first | omega | (simp only [lens] <;> omega) | (decide +kernel) | (simp only [maxI_eq, pmGet_eq, pmHas_eq, pmPut_eq, pmClk_eq, pmDel_eq] <;> decide +kernel)))
      all_goals first
        | exact rfl
        | exact e1.symm
        | exact e2.symm
        | exact e3.symm
        | (rw [hs, e2]; done)
        | trace_state
    | false =>
      have i3 := i3 hs
      by_cases ht : tkT nodes (node, send, ticks) k + 1 = 20
      · obtain ⟨e1, e2, e3⟩ := tk_fire nodes (node, send, ticks) hs ht
        repeat' ((conv => whnf); first | (with_reducible first | (refine W1.o ?_; constructor) | rfl | exact castL_self _ _) | ((with_reducible refine V.same_t ?_); exact rfl) | ((with_reducible refine andB_room ?_ ?_ ?_); (· kernel_rfl); (· (first | omega | (simp only [lens] <;> omega) | (decide +kernel) | (simp only [maxI_eq, pmGet_eq, pmHas_eq, pmPut_eq, pmClk_eq, pmDel_eq] <;> decide +kernel)))) | ((with_reducible refine W2.o ?_; constructor); · (first | (with_reducible assumption) | (first | omega | (simp only [lens] <;> omega) | (decide +kernel) | (simp only [maxI_eq, pmGet_eq, pmHas_eq, pmPut_eq, pmClk_eq, pmDel_eq] <;> decide +kernel)))) | ((with_reducible refine W3.o ?_; constructor); · (first | (with_reducible assumption) | (first | omega | (simp only [lens] <;> omega) | (decide +kernel) | (simp only [maxI_eq, pmGet_eq, pmHas_eq, pmPut_eq, pmClk_eq, pmDel_eq] <;> decide +kernel)))) | ((with_reducible refine W4.o ?_; constructor); · (first | (with_reducible first | assumption | exact decide_eq_true rfl | exact sEq_self _) | ((with_reducible refine eqOK_i ?_); kernel_rfl) | (first | (first | exact hs | exact e2) | (simp only [maxI_eq, pmGet_eq, pmHas_eq, pmPut_eq, pmClk_eq, pmDel_eq] <;> decide +kernel)))) | ((with_reducible refine iteB_f ?_ ?_); · (first | (with_reducible first | assumption | exact decide_eq_true rfl | exact sEq_self _) | ((with_reducible refine eqOK_i ?_); kernel_rfl) | (first | (first | exact hs | exact e2) | (simp only [maxI_eq, pmGet_eq, pmHas_eq, pmPut_eq, pmClk_eq, pmDel_eq] <;> decide +kernel)))) | (refine ⟨⟨k + 1, hlt⟩, ?_, rfl, ?_⟩) | (with_reducible refine CD.wk_au ?_) | (with_reducible refine W5.o ?_; constructor) | ((with_reducible refine W6.o ?_; constructor) <;> intro hB))
        all_goals ((conv => whnf); (try dsimp only); (try simp only [Nat.succ_eq_add_one, Nat.le_eq, castL_self]); (try omega))
        all_goals (try (first | omega | (simp only [lens] <;> omega) | (decide +kernel) | (simp only [maxI_eq, pmGet_eq, pmHas_eq, pmPut_eq, pmClk_eq, pmDel_eq] <;> decide +kernel)))
        all_goals first
          | exact rfl
          | exact e1.symm
          | exact e2.symm
          | exact e3.symm
          | (rw [hs, e2]; done)
          | trace_state
      · obtain ⟨e1, e2, e3⟩ := tk_go nodes (node, send, ticks) hs ht
        repeat' ((conv => whnf); first | (with_reducible first | (refine W1.o ?_; constructor) | rfl | exact castL_self _ _) | ((with_reducible refine V.same_t ?_); exact rfl) | ((with_reducible refine andB_room ?_ ?_ ?_); (· kernel_rfl); (· (first | omega | (simp only [lens] <;> omega) | (decide +kernel) | (simp only [maxI_eq, pmGet_eq, pmHas_eq, pmPut_eq, pmClk_eq, pmDel_eq] <;> decide +kernel)))) | ((with_reducible refine W2.o ?_; constructor); · (first | (with_reducible assumption) | (first | omega | (simp only [lens] <;> omega) | (decide +kernel) | (simp only [maxI_eq, pmGet_eq, pmHas_eq, pmPut_eq, pmClk_eq, pmDel_eq] <;> decide +kernel)))) | ((with_reducible refine W3.o ?_; constructor); · (first | (with_reducible assumption) | (first | omega | (simp only [lens] <;> omega) | (decide +kernel) | (simp only [maxI_eq, pmGet_eq, pmHas_eq, pmPut_eq, pmClk_eq, pmDel_eq] <;> decide +kernel)))) | ((with_reducible refine W4.o ?_; constructor); · (first | (with_reducible first | assumption | exact decide_eq_true rfl | exact sEq_self _) | ((with_reducible refine eqOK_i ?_); kernel_rfl) | (first | (first | exact hs | exact e2) | (simp only [maxI_eq, pmGet_eq, pmHas_eq, pmPut_eq, pmClk_eq, pmDel_eq] <;> decide +kernel)))) | ((with_reducible refine iteB_f ?_ ?_); · (first | (with_reducible first | assumption | exact decide_eq_true rfl | exact sEq_self _) | ((with_reducible refine eqOK_i ?_); kernel_rfl) | (first | (first | exact hs | exact e2) | (simp only [maxI_eq, pmGet_eq, pmHas_eq, pmPut_eq, pmClk_eq, pmDel_eq] <;> decide +kernel)))) | (refine ⟨⟨k + 1, hlt⟩, ?_, rfl, ?_⟩) | (with_reducible refine CD.wk_au ?_) | (with_reducible refine W5.o ?_; constructor) | ((with_reducible refine W6.o ?_; constructor) <;> intro hB))
        all_goals ((conv => whnf); (try dsimp only); (try simp only [Nat.succ_eq_add_one, Nat.le_eq, castL_self]); (try omega))
        all_goals (try (first | omega | (simp only [lens] <;> omega) | (decide +kernel) | (simp only [maxI_eq, pmGet_eq, pmHas_eq, pmPut_eq, pmClk_eq, pmDel_eq] <;> decide +kernel)))
        all_goals first
          | exact rfl
          | exact e1.symm
          | exact e2.symm
          | exact e3.symm
          | (rw [hs, e2]; done)
          | trace_state
  · have he : k = n := Nat.le_antisymm hk hge
    subst he
    repeat' ((conv => whnf); first | (with_reducible first | (refine W1.o ?_; constructor) | rfl | exact castL_self _ _) | ((with_reducible refine V.same_t ?_); exact rfl) | ((with_reducible refine andB_room ?_ ?_ ?_); (· kernel_rfl); (· (first | omega | (simp only [lens] <;> omega) | (decide +kernel) | (simp only [maxI_eq, pmGet_eq, pmHas_eq, pmPut_eq, pmClk_eq, pmDel_eq] <;> decide +kernel)))) | ((with_reducible refine W2.o ?_; constructor); · (first | (with_reducible assumption) | (first | omega | (simp only [lens] <;> omega) | (decide +kernel) | (simp only [maxI_eq, pmGet_eq, pmHas_eq, pmPut_eq, pmClk_eq, pmDel_eq] <;> decide +kernel)))) | ((with_reducible refine W3.o ?_; constructor); · (first | (with_reducible assumption) | (first | omega | (simp only [lens] <;> omega) | (decide +kernel) | (simp only [maxI_eq, pmGet_eq, pmHas_eq, pmPut_eq, pmClk_eq, pmDel_eq] <;> decide +kernel)))) | ((with_reducible refine W4.o ?_; constructor); · (first | (with_reducible first | assumption | exact decide_eq_true rfl | exact sEq_self _) | ((with_reducible refine eqOK_i ?_); kernel_rfl) | (simp only [maxI_eq, pmGet_eq, pmHas_eq, pmPut_eq, pmClk_eq, pmDel_eq] <;> decide +kernel))) | ((with_reducible refine iteB_f ?_ ?_); · (first | (with_reducible first | assumption | exact decide_eq_true rfl | exact sEq_self _) | ((with_reducible refine eqOK_i ?_); kernel_rfl) | (simp only [maxI_eq, pmGet_eq, pmHas_eq, pmPut_eq, pmClk_eq, pmDel_eq] <;> decide +kernel))) | (with_reducible refine CD.wk_au ?_) | (with_reducible refine W5.o ?_; constructor) | ((with_reducible refine W6.o ?_; constructor) <;> intro hB))
    all_goals ((conv => whnf); (try dsimp only); (try simp only [Nat.succ_eq_add_one, Nat.le_eq, castL_self]); (try omega))
    all_goals (try (first | omega | (simp only [lens] <;> omega) | (decide +kernel) | (simp only [maxI_eq, pmGet_eq, pmHas_eq, pmPut_eq, pmClk_eq, pmDel_eq] <;> decide +kernel)))
    all_goals first
      | exact rfl
      | trace_state
noncomputable abbrev nonH : List (Nat × EObj) := [(0, .cells [.nils, .int .u64 (idn + 1), .int .i64 nodes, .int .i64 node, .int .u64 0, .int .u64 0, .nilp] 0 false), (1, .pm (.int .u64) (.int .i64) (mpV (.int .i64) (1 : Int) []) 0)]
noncomputable def tnC (step : Int) (k : Nat) : CD := ⟨331, outS idn nodes 0 0 l i step 1 ++ [(12, .nils), (24, .int .i64 (k : Int))], [], nonH idn nodes node, 2⟩
noncomputable def tiC (step : Int) (k : Nat) : CD := ⟨331, outS idn nodes writes sent l i step 2 ++ [(12, .lst clC L false), (24, .int .i64 (k : Int))], [], idlH idn nodes node writes sent L, 3⟩
theorem tn_loop (step : Int) (n : Nat) (hi : i < l.length) (hl : l.length ≤ 9223372036854775807) (hr : @LE.le Int _ 0 (Sym.rowAt a3 l (Int.toNat (i : Int))).2.1 ∧ @LT.lt Int _ (Sym.rowAt a3 l (Int.toNat (i : Int))).2.1 256) (hn : @Eq Int (n : Int) ((Sym.rowAt a3 l (Int.toNat (i : Int))).2.1 % 30)) (N : Nat) : LpD.ok Try.prog N 0 (bodyOf Try.prog 5) ⟨15, [(0, 0), (1, 1)], tnC idn nodes node l i step 0, .leaf (.exit 3) (tnC idn nodes node l i step n)⟩ := by
  refine LpD.ok_one (b := bodyAt Try.prog 5 15) rfl (loop_W noTab_ok (fuel := 3) (d := 4) (X := { k : Nat // k ≤ n }) (fun x => tnC idn nodes node l i step x.1) (fun x => n - x.1)
    (fun _ => .leaf (.exit 3) (tnC idn nodes node l i step n)) (fun _ => noLpW) (fun _ => noLp) (fun _ => noLp_ad) (fun _ => noLp_ok _) ?_ ⟨0, Nat.zero_le _⟩)
  rintro ⟨k, hk⟩
  dsimp only
  rcases Nat.lt_or_ge k n with hlt | hge
  · repeat' ((conv => whnf); first | (with_reducible first | (refine W1.o ?_; constructor) | rfl | exact castL_self _ _) | ((with_reducible refine V.same_t ?_); exact rfl) | ((with_reducible refine andB_room ?_ ?_ ?_); (· kernel_rfl); (· (first | omega | (simp only [lens] <;> omega) | (decide +kernel) | (simp only [maxI_eq, pmGet_eq, pmHas_eq, pmPut_eq, pmClk_eq, pmDel_eq] <;> decide +kernel)))) | ((with_reducible refine W2.o ?_; constructor); · (first | (with_reducible assumption) | (first | omega | (simp only [lens] <;> omega) | (decide +kernel) | (simp only [maxI_eq, pmGet_eq, pmHas_eq, pmPut_eq, pmClk_eq, pmDel_eq] <;> decide +kernel)))) | ((with_reducible refine W3.o ?_; constructor); · (first | (with_reducible assumption) | (first | omega | (simp only [lens] <;> omega) | (decide +kernel) | (simp only [maxI_eq, pmGet_eq, pmHas_eq, pmPut_eq, pmClk_eq, pmDel_eq] <;> decide +kernel)))) | ((with_reducible refine W4.o ?_; constructor); · (first | (with_reducible first | assumption | exact decide_eq_true rfl | exact sEq_self _) | ((with_reducible refine eqOK_i ?_); kernel_rfl) | (simp only [maxI_eq, pmGet_eq, pmHas_eq, pmPut_eq, pmClk_eq, pmDel_eq] <;> decide +kernel))) | ((with_reducible refine iteB_f ?_ ?_); · (first | (with_reducible first | assumption | exact decide_eq_true rfl | exact sEq_self _) | ((with_reducible refine eqOK_i ?_); kernel_rfl) | (simp only [maxI_eq, pmGet_eq, pmHas_eq, pmPut_eq, pmClk_eq, pmDel_eq] <;> decide +kernel))) | (refine ⟨⟨k + 1, hlt⟩, ?_, rfl, ?_⟩) | (with_reducible refine CD.wk_au ?_) | (with_reducible refine W5.o ?_; constructor) | ((with_reducible refine W6.o ?_; constructor) <;> intro hB))
    all_goals ((conv => whnf); (try dsimp only); (try simp only [Nat.succ_eq_add_one, Nat.le_eq, castL_self]); (try omega))
    all_goals (try (first | omega | (simp only [lens] <;> omega) | (decide +kernel) | (simp only [maxI_eq, pmGet_eq, pmHas_eq, pmPut_eq, pmClk_eq, pmDel_eq] <;> decide +kernel)))
    all_goals first
      | exact rfl
      | trace_state
  · have he : k = n := Nat.le_antisymm hk hge
    subst he
    repeat' ((conv => whnf); first | (with_reducible first | (refine W1.o ?_; constructor) | rfl | exact castL_self _ _) | ((with_reducible refine V.same_t ?_); exact rfl) | ((with_reducible refine andB_room ?_ ?_ ?_); (· kernel_rfl); (· (first | omega | (simp only [lens] <;> omega) | (decide +kernel) | (simp only [maxI_eq, pmGet_eq, pmHas_eq, pmPut_eq, pmClk_eq, pmDel_eq] <;> decide +kernel)))) | ((with_reducible refine W2.o ?_; constructor); · (first | (with_reducible assumption) | (first | omega | (simp only [lens] <;> omega) | (decide +kernel) | (simp only [maxI_eq, pmGet_eq, pmHas_eq, pmPut_eq, pmClk_eq, pmDel_eq] <;> decide +kernel)))) | ((with_reducible refine W3.o ?_; constructor); · (first | (with_reducible assumption) | (first | omega | (simp only [lens] <;> omega) | (decide +kernel) | (simp only [maxI_eq, pmGet_eq, pmHas_eq, pmPut_eq, pmClk_eq, pmDel_eq] <;> decide +kernel)))) | ((with_reducible refine W4.o ?_; constructor); · (first | (with_reducible first | assumption | exact decide_eq_true rfl | exact sEq_self _) | ((with_reducible refine eqOK_i ?_); kernel_rfl) | (simp only [maxI_eq, pmGet_eq, pmHas_eq, pmPut_eq, pmClk_eq, pmDel_eq] <;> decide +kernel))) | ((with_reducible refine iteB_f ?_ ?_); · (first | (with_reducible first | assumption | exact decide_eq_true rfl | exact sEq_self _) | ((with_reducible refine eqOK_i ?_); kernel_rfl) | (simp only [maxI_eq, pmGet_eq, pmHas_eq, pmPut_eq, pmClk_eq, pmDel_eq] <;> decide +kernel))) | (with_reducible refine CD.wk_au ?_) | (with_reducible refine W5.o ?_; constructor) | ((with_reducible refine W6.o ?_; constructor) <;> intro hB))
    all_goals ((conv => whnf); (try dsimp only); (try simp only [Nat.succ_eq_add_one, Nat.le_eq, castL_self]); (try omega))
    all_goals (try (first | omega | (simp only [lens] <;> omega) | (decide +kernel) | (simp only [maxI_eq, pmGet_eq, pmHas_eq, pmPut_eq, pmClk_eq, pmDel_eq] <;> decide +kernel)))
    all_goals first
      | exact rfl
      | trace_state
theorem ti_loop (step : Int) (n : Nat) (hi : i < l.length) (hl : l.length ≤ 9223372036854775807) (hr : @LE.le Int _ 0 (Sym.rowAt a3 l (Int.toNat (i : Int))).2.1 ∧ @LT.lt Int _ (Sym.rowAt a3 l (Int.toNat (i : Int))).2.1 256) (hn : @Eq Int (n : Int) ((Sym.rowAt a3 l (Int.toNat (i : Int))).2.1 % 30)) (N : Nat) : LpD.ok Try.prog N 0 (bodyOf Try.prog 5) ⟨15, [(0, 0), (1, 1), (2, 2)], tiC idn nodes node writes sent l L i step 0, .leaf (.exit 3) (tiC idn nodes node writes sent l L i step n)⟩ := by
  refine LpD.ok_one (b := bodyAt Try.prog 5 15) rfl (loop_W noTab_ok (fuel := 3) (d := 4) (X := { k : Nat // k ≤ n }) (fun x => tiC idn nodes node writes sent l L i step x.1) (fun x => n - x.1)
    (fun _ => .leaf (.exit 3) (tiC idn nodes node writes sent l L i step n)) (fun _ => noLpW) (fun _ => noLp) (fun _ => noLp_ad) (fun _ => noLp_ok _) ?_ ⟨0, Nat.zero_le _⟩)
  rintro ⟨k, hk⟩
  dsimp only
  rcases Nat.lt_or_ge k n with hlt | hge
  · repeat' ((conv => whnf); first | (with_reducible first | (refine W1.o ?_; constructor) | rfl | exact castL_self _ _) | ((with_reducible refine V.same_t ?_); exact rfl) | ((with_reducible refine andB_room ?_ ?_ ?_); (· kernel_rfl); (· (first | omega | (simp only [lens] <;> omega) | (decide +kernel) | (simp only [maxI_eq, pmGet_eq, pmHas_eq, pmPut_eq, pmClk_eq, pmDel_eq] <;> decide +kernel)))) | ((with_reducible refine W2.o ?_; constructor); · (first | (with_reducible assumption) | (first | omega | (simp only [lens] <;> omega) | (decide +kernel) | (simp only [maxI_eq, pmGet_eq, pmHas_eq, pmPut_eq, pmClk_eq, pmDel_eq] <;> decide +kernel)))) | ((with_reducible refine W3.o ?_; constructor); · (first | (with_reducible assumption) | (first | omega | (simp only [lens] <;> omega) | (decide +kernel) | (simp only [maxI_eq, pmGet_eq, pmHas_eq, pmPut_eq, pmClk_eq, pmDel_eq] <;> decide +kernel)))) | ((with_reducible refine W4.o ?_; constructor); · (first | (with_reducible first | assumption | exact decide_eq_true rfl | exact sEq_self _) | ((with_reducible refine eqOK_i ?_); kernel_rfl) | (simp only [maxI_eq, pmGet_eq, pmHas_eq, pmPut_eq, pmClk_eq, pmDel_eq] <;> decide +kernel))) | ((with_reducible refine iteB_f ?_ ?_); · (first | (with_reducible first | assumption | exact decide_eq_true rfl | exact sEq_self _) | ((with_reducible refine eqOK_i ?_); kernel_rfl) | (simp only [maxI_eq, pmGet_eq, pmHas_eq, pmPut_eq, pmClk_eq, pmDel_eq] <;> decide +kernel))) | (refine ⟨⟨k + 1, hlt⟩, ?_, rfl, ?_⟩) | (with_reducible refine CD.wk_au ?_) | (with_reducible refine W5.o ?_; constructor) | ((with_reducible refine W6.o ?_; constructor) <;> intro hB))
    all_goals ((conv => whnf); (try dsimp only); (try simp only [Nat.succ_eq_add_one, Nat.le_eq, castL_self]); (try omega))
    all_goals (try (first | omega | (simp only [lens] <;> omega) | (decide +kernel) | (simp only [maxI_eq, pmGet_eq, pmHas_eq, pmPut_eq, pmClk_eq, pmDel_eq] <;> decide +kernel)))
    all_goals first
      | exact rfl
      | trace_state
  · have he : k = n := Nat.le_antisymm hk hge
    subst he
    repeat' ((conv => whnf); first | (with_reducible first | (refine W1.o ?_; constructor) | rfl | exact castL_self _ _) | ((with_reducible refine V.same_t ?_); exact rfl) | ((with_reducible refine andB_room ?_ ?_ ?_); (· kernel_rfl); (· (first | omega | (simp only [lens] <;> omega) | (decide +kernel) | (simp only [maxI_eq, pmGet_eq, pmHas_eq, pmPut_eq, pmClk_eq, pmDel_eq] <;> decide +kernel)))) | ((with_reducible refine W2.o ?_; constructor); · (first | (with_reducible assumption) | (first | omega | (simp only [lens] <;> omega) | (decide +kernel) | (simp only [maxI_eq, pmGet_eq, pmHas_eq, pmPut_eq, pmClk_eq, pmDel_eq] <;> decide +kernel)))) | ((with_reducible refine W3.o ?_; constructor); · (first | (with_reducible assumption) | (first | omega | (simp only [lens] <;> omega) | (decide +kernel) | (simp only [maxI_eq, pmGet_eq, pmHas_eq, pmPut_eq, pmClk_eq, pmDel_eq] <;> decide +kernel)))) | ((with_reducible refine W4.o ?_; constructor); · (first | (with_reducible first | assumption | exact decide_eq_true rfl | exact sEq_self _) | ((with_reducible refine eqOK_i ?_); kernel_rfl) | (simp only [maxI_eq, pmGet_eq, pmHas_eq, pmPut_eq, pmClk_eq, pmDel_eq] <;> decide +kernel))) | ((with_reducible refine iteB_f ?_ ?_); · (first | (with_reducible first | assumption | exact decide_eq_true rfl | exact sEq_self _) | ((with_reducible refine eqOK_i ?_); kernel_rfl) | (simp only [maxI_eq, pmGet_eq, pmHas_eq, pmPut_eq, pmClk_eq, pmDel_eq] <;> decide +kernel))) | (with_reducible refine CD.wk_au ?_) | (with_reducible refine W5.o ?_; constructor) | ((with_reducible refine W6.o ?_; constructor) <;> intro hB))
    all_goals ((conv => whnf); (try dsimp only); (try simp only [Nat.succ_eq_add_one, Nat.le_eq, castL_self]); (try omega))
    all_goals (try (first | omega | (simp only [lens] <;> omega) | (decide +kernel) | (simp only [maxI_eq, pmGet_eq, pmHas_eq, pmPut_eq, pmClk_eq, pmDel_eq] <;> decide +kernel)))
    all_goals first
      | exact rfl
      | trace_state
end
end Go.Proofs.Ytlfhiophojahbaa
end

section
namespace Go.Proofs.Ytlfhiophojahbaa
open Go.Sym
set_option linter.unusedVariables false
set_option linter.unusedSimpArgs false
set_option maxRecDepth 100000
set_option maxHeartbeats 4000000
inductive S27 where
  | non (node : Int)
  | idl (node writes sent : Int) (L : List ClR)
  | pnd (node writes sent : Int) (L : List ClR) (send : Bool) (ticks : Int) (M : KM) (clk : Nat)
abbrev lstC (L : List ClR) : ClR := rwC L (L.length - 1)
abbrev cidC (r : ClR) : Int := r.2.1
abbrev numC (r : ClR) : Int := r.2.2.1
def Inv27 (idn nodes : Int) (i : Nat) : S27 → Prop
  | .non node => 0 ≤ node ∧ node < nodes
  | .idl node writes sent L => (0 ≤ node ∧ node < nodes) ∧ (0 ≤ writes ∧ writes ≤ (i : Int)) ∧ (0 ≤ sent ∧ sent ≤ (i : Int)) ∧ (0 < L.length ∧ L.length ≤ i) ∧ okL L ∧ ¬ dne (lstC L) = 0 ∧ dne (lstC L) ≤ (i : Int)
  | .pnd node writes sent L send ticks M clk => (0 ≤ node ∧ node < nodes) ∧ (0 ≤ writes ∧ writes ≤ (i : Int)) ∧ (0 ≤ sent ∧ sent ≤ (i : Int)) ∧ (0 < L.length ∧ L.length ≤ i) ∧ okL L ∧ (dne (lstC L) = 0 ∧ bgn (lstC L) ≤ (i : Int)) ∧ ((cidC (lstC L) = idn + 1 ∧ numC (lstC L) = writes) ∨ (cidC (lstC L) = 0 ∧ numC (lstC L) = 0)) ∧ (0 ≤ ticks ∧ ticks ≤ 20) ∧ (send = false → ticks < 20)
theorem rwC_lt {L : List ClR} {k : Nat} (h : k < L.length) : rwC L k = L[k] := rowAt_lt (e := clC) (L := L) h
theorem rwC_app {L : List ClR} {r : ClR} {k : Nat} (h : k < L.length) : rwC (L ++ [r]) k = rwC L k := by
  rw [rwC_lt (L := L ++ [r]) (by rw [List.length_append]; omega), rwC_lt h, List.getElem_append_left h]
theorem rwC_new {L : List ClR} {r : ClR} : rwC (L ++ [r]) L.length = r := by
  rw [rwC_lt (L := L ++ [r]) (by rw [List.length_append]; exact Nat.lt_succ_self _), List.getElem_append_right (Nat.le_refl _)]
  simp only [Nat.sub_self, List.getElem_cons_zero]
theorem lst_app {L : List ClR} {r : ClR} : lstC (L ++ [r]) = r := by
  have e : (L ++ [r]).length - 1 = L.length := by rw [List.length_append]; rfl
  unfold lstC
  rw [e]; exact rwC_new
theorem okL_one (r : ClR) (h : dne r = 0) : okL [r] := by
  intro k hk
  have h0 : k = 0 := Nat.lt_one_iff.1 hk
  subst h0
  exact ⟨fun q => absurd q (Nat.lt_irrefl 1), fun q => absurd h q⟩
theorem okL_app {L : List ClR} {r : ClR} (h : okL L) (h0 : 0 < L.length) (h1 : ¬ dne (lstC L) = 0) (h2 : dne (lstC L) ≤ bgn r) (h3 : dne r = 0) : okL (L ++ [r]) := by
  intro k hk
  have hk : k < L.length + 1 := by rw [List.length_append] at hk; exact hk
  have ej : (L ++ [r]).length = L.length + 1 := by rw [List.length_append]; rfl
  rcases Nat.lt_or_ge k L.length with q | q
  · rw [rwC_app q]
    refine ⟨fun hk1 => ?_, (h k q).2⟩
    rcases Nat.lt_or_ge (k + 1) L.length with q1 | q1
    · rw [rwC_app q1]; exact (h k q).1 q1
    · have e : k + 1 = L.length := by omega
      rw [e, rwC_new]
      have e2 : k = L.length - 1 := by omega
      rw [e2]; exact ⟨h1, h2⟩
  · have e : k = L.length := by omega
    subst e
    refine ⟨fun q1 => by omega, fun q1 => ?_⟩
    rw [rwC_new] at q1; exact absurd h3 q1
theorem rwC_done {L : List ClR} {step nd rev : Int} {k : Nat} (h : k < L.length) (hk : ¬ k = L.length - 1) : rwC (doneL L step nd rev) k = rwC L k := by
  rw [rwC_lt (L := doneL L step nd rev) (by rw [doneL_len]; exact h), rwC_lt h]
  have e := doneL_eq L step nd rev
  simp only [e]
  exact List.getElem_set_ne (fun q => hk q.symm) _
theorem lst_done {L : List ClR} {step nd rev : Int} (h : 0 < L.length) : lstC (doneL L step nd rev) = doneR (lstC L) (max step 1) nd 0 rev 0 := by
  unfold lstC
  rw [doneL_len, doneL_eq]
  exact row_set (by omega) _
theorem okL_done {L : List ClR} {step nd rev : Int} (h : okL L) (h0 : 0 < L.length) (h1 : dne (lstC L) = 0) (h2 : bgn (lstC L) ≤ step) (hs : 1 ≤ step) : okL (doneL L step nd rev) := by
  intro k hk
  rw [doneL_len] at hk ⊢
  by_cases e : k = L.length - 1
  · subst e
    refine ⟨fun q => by omega, fun _ => ?_⟩
    have e2 := lst_done (step := step) (nd := nd) (rev := rev) h0
    unfold lstC at e2 h2
    rw [doneL_len] at e2
    rw [e2]
    show bgn (rwC L (L.length - 1)) ≤ max step 1
    omega
  · rw [rwC_done hk e]
    refine ⟨fun q => ?_, (h k hk).2⟩
    obtain ⟨g1, g2⟩ := (h k hk).1 q
    by_cases e2 : k + 1 = L.length - 1
    · have e3 := lst_done (step := step) (nd := nd) (rev := rev) h0
      unfold lstC at e3
      rw [doneL_len] at e3
      rw [e2, e3]
      rw [e2] at g2
      exact ⟨g1, g2⟩
    · rw [rwC_done q e2]; exact ⟨g1, g2⟩
section
variable (idn nodes : Int) (l : List (Int × Int × Int)) (i : Nat)
noncomputable abbrev lpI (m : List (Nat × Nat)) (node writes sent : Int) (L : List ClR) : LpD := ⟨56, m, ckI idn nodes node writes sent l L i ((i : Int) + 1) 0, .leaf (.exit 5) (ckI idn nodes node writes sent l L i ((i : Int) + 1) L.length)⟩
noncomputable abbrev lpP (m : List (Nat × Nat)) (node writes sent : Int) (L : List ClR) (send : Bool) (ticks : Int) (M : KM) (clk : Nat) : LpD := ⟨56, m, ckP idn nodes node writes sent l L send ticks M clk i ((i : Int) + 1) 0, .leaf (.exit 5) (ckP idn nodes node writes sent l L send ticks M clk i ((i : Int) + 1) L.length)⟩
end
end Go.Proofs.Ytlfhiophojahbaa
end

section
namespace Go.Proofs.Ytlfhiophojahbaa
open Go.Sym
set_option linter.unusedVariables false
set_option linter.unusedSimpArgs false
set_option maxRecDepth 100000
set_option maxHeartbeats 4000000
section
variable (idn nodes : Int) (l : List (Int × Int × Int)) (n : Nat)
inductive Stp27 (i : Nat) : S27 → List LpD → Prop where
  | nonPut (node : Int) (ha : @Eq Int ((Sym.rowAt a3 l (Int.toNat (i : Int))).1 % 5) 0) (hb : ¬ @Eq Int ((Sym.rowAt a3 l (Int.toNat (i : Int))).2.1 % 3) 0) : Stp27 i (.non node) [lpP idn nodes l i [(0, 0), (1, 7), (2, 8), (3, 9), (4, 6)] node 1 0 [begR (idn + 1) 1 (putR ⟨#[118]⟩) ((i : Int) + 1)] true 0 [] 0]
  | nonGet (node : Int) (ha : @Eq Int ((Sym.rowAt a3 l (Int.toNat (i : Int))).1 % 5) 0) (hb : @Eq Int ((Sym.rowAt a3 l (Int.toNat (i : Int))).2.1 % 3) 0) : Stp27 i (.non node) [lpP idn nodes l i [(0, 0), (1, 7), (2, 8), (3, 9), (4, 6)] node 0 0 [begR 0 0 getR ((i : Int) + 1)] true 0 [] 0]
  | nonNext (node : Int) (ha : @Eq Int ((Sym.rowAt a3 l (Int.toNat (i : Int))).1 % 5) 1 ∨ @Eq Int ((Sym.rowAt a3 l (Int.toNat (i : Int))).1 % 5) 2) : Stp27 i (.non node) []
  | nonTell (node : Int) (ha : @Eq Int ((Sym.rowAt a3 l (Int.toNat (i : Int))).1 % 5) 3) : Stp27 i (.non node) []
  | nonTick (node : Int) (m : Nat) (ha : @Eq Int ((Sym.rowAt a3 l (Int.toNat (i : Int))).1 % 5) 4) (hm : @Eq Int (m : Int) ((Sym.rowAt a3 l (Int.toNat (i : Int))).2.1 % 30)) : Stp27 i (.non node) [⟨15, [(0, 0), (1, 1)], tnC idn nodes node l i ((i : Int) + 1) 0, .leaf (.exit 3) (tnC idn nodes node l i ((i : Int) + 1) m)⟩]
  | idlPut (node writes sent : Int) (L : List ClR) (ha : @Eq Int ((Sym.rowAt a3 l (Int.toNat (i : Int))).1 % 5) 0) (hb : ¬ @Eq Int ((Sym.rowAt a3 l (Int.toNat (i : Int))).2.1 % 3) 0) : Stp27 i (.idl node writes sent L) [lpP idn nodes l i [(0, 0), (1, 9), (2, 10), (3, 11), (4, 8)] node (writes + 1) sent (L ++ [begR (idn + 1) (writes + 1) (putR ⟨#[118]⟩) ((i : Int) + 1)]) true 0 [] 0]
  | idlGet (node writes sent : Int) (L : List ClR) (ha : @Eq Int ((Sym.rowAt a3 l (Int.toNat (i : Int))).1 % 5) 0) (hb : @Eq Int ((Sym.rowAt a3 l (Int.toNat (i : Int))).2.1 % 3) 0) : Stp27 i (.idl node writes sent L) [lpP idn nodes l i [(0, 0), (1, 9), (2, 10), (3, 11), (4, 8)] node writes sent (L ++ [begR 0 0 getR ((i : Int) + 1)]) true 0 [] 0]
  | idlNext (node writes sent : Int) (L : List ClR) (ha : @Eq Int ((Sym.rowAt a3 l (Int.toNat (i : Int))).1 % 5) 1 ∨ @Eq Int ((Sym.rowAt a3 l (Int.toNat (i : Int))).1 % 5) 2) : Stp27 i (.idl node writes sent L) [lpI idn nodes l i [(0, 0), (1, 6), (2, 2)] node writes sent L]
  | idlTell (node writes sent : Int) (L : List ClR) (ha : @Eq Int ((Sym.rowAt a3 l (Int.toNat (i : Int))).1 % 5) 3) : Stp27 i (.idl node writes sent L) [lpI idn nodes l i [(0, 0), (1, 6), (2, 2)] node writes sent L]
  | idlTick (node writes sent : Int) (L : List ClR) (m : Nat) (ha : @Eq Int ((Sym.rowAt a3 l (Int.toNat (i : Int))).1 % 5) 4) (hm : @Eq Int (m : Int) ((Sym.rowAt a3 l (Int.toNat (i : Int))).2.1 % 30)) : Stp27 i (.idl node writes sent L) [⟨15, [(0, 0), (1, 3), (2, 2)], tiC idn nodes node writes sent l L i ((i : Int) + 1) 0, .leaf (.exit 3) (tiC idn nodes node writes sent l L i ((i : Int) + 1) m)⟩, lpI idn nodes l i [(0, 0), (1, 3), (2, 2)] node writes sent L]
  | pndAsk (node writes sent : Int) (L : List ClR) (send : Bool) (ticks : Int) (M : KM) (clk : Nat) (ha : @Eq Int ((Sym.rowAt a3 l (Int.toNat (i : Int))).1 % 5) 0) : Stp27 i (.pnd node writes sent L send ticks M clk) [lpP idn nodes l i [(0, 0), (1, 10), (2, 11), (3, 12), (4, 4)] node writes sent L send ticks M clk]
  | pndNext (node writes sent : Int) (L : List ClR) (ticks : Int) (M : KM) (clk : Nat) (ha : @Eq Int ((Sym.rowAt a3 l (Int.toNat (i : Int))).1 % 5) 1 ∨ @Eq Int ((Sym.rowAt a3 l (Int.toNat (i : Int))).1 % 5) 2) : Stp27 i (.pnd node writes sent L true ticks M clk) [lpP idn nodes l i [(0, 0), (1, 10), (2, 11), (3, 12), (4, 4)] node writes (sent + 1) L false 0 (putM M (sent + 1) clk) (clkM M (sent + 1) clk)]
  | pndNone (node writes sent : Int) (L : List ClR) (ticks : Int) (M : KM) (clk : Nat) (ha : @Eq Int ((Sym.rowAt a3 l (Int.toNat (i : Int))).1 % 5) 1 ∨ @Eq Int ((Sym.rowAt a3 l (Int.toNat (i : Int))).1 % 5) 2) : Stp27 i (.pnd node writes sent L false ticks M clk) [lpP idn nodes l i [(0, 0), (1, 10), (2, 11), (3, 12), (4, 4)] node writes sent L false ticks M clk]
  | pndNot (node writes sent : Int) (L : List ClR) (send : Bool) (ticks : Int) (M : KM) (clk : Nat) (ha : @Eq Int ((Sym.rowAt a3 l (Int.toNat (i : Int))).1 % 5) 3) (hc : hasM M ((sent - min sent ((Sym.rowAt a3 l (Int.toNat (i : Int))).2.1 % 4 % 18446744073709551616)) % 18446744073709551616) = false) : Stp27 i (.pnd node writes sent L send ticks M clk) [lpP idn nodes l i [(0, 0), (1, 10), (2, 11), (3, 12), (4, 4)] node writes sent L send ticks M clk]
  | pndDone (node writes sent : Int) (L : List ClR) (send : Bool) (ticks : Int) (M : KM) (clk : Nat) (ha : @Eq Int ((Sym.rowAt a3 l (Int.toNat (i : Int))).1 % 5) 3) (hb : ¬ @Eq Int ((Sym.rowAt a3 l (Int.toNat (i : Int))).2.2 % 3) 0) (hc : hasM M ((sent - min sent ((Sym.rowAt a3 l (Int.toNat (i : Int))).2.1 % 4 % 18446744073709551616)) % 18446744073709551616) = true) : Stp27 i (.pnd node writes sent L send ticks M clk) [lpI idn nodes l i [(0, 0), (1, 12), (2, 11)] node writes sent (doneL L ((i : Int) + 1) ((Sym.rowAt a3 l (Int.toNat (i : Int))).2.1 % nodes) ((i : Int) + 1))]
  | pndOff (node writes sent : Int) (L : List ClR) (send : Bool) (ticks : Int) (M : KM) (clk : Nat) (ha : @Eq Int ((Sym.rowAt a3 l (Int.toNat (i : Int))).1 % 5) 3) (hb : @Eq Int ((Sym.rowAt a3 l (Int.toNat (i : Int))).2.2 % 3) 0) (hc : hasM M ((sent - min sent ((Sym.rowAt a3 l (Int.toNat (i : Int))).2.1 % 4 % 18446744073709551616)) % 18446744073709551616) = true) (hm : 0 < (delM M ((sent - min sent ((Sym.rowAt a3 l (Int.toNat (i : Int))).2.1 % 4 % 18446744073709551616)) % 18446744073709551616)).length) : Stp27 i (.pnd node writes sent L send ticks M clk) [lpP idn nodes l i [(0, 0), (1, 11), (2, 12), (3, 13), (4, 4)] node writes sent L send ticks (delM M ((sent - min sent ((Sym.rowAt a3 l (Int.toNat (i : Int))).2.1 % 4 % 18446744073709551616)) % 18446744073709551616)) clk]
  | pndElse (node writes sent : Int) (L : List ClR) (send : Bool) (ticks : Int) (M : KM) (clk : Nat) (ha : @Eq Int ((Sym.rowAt a3 l (Int.toNat (i : Int))).1 % 5) 3) (hb : @Eq Int ((Sym.rowAt a3 l (Int.toNat (i : Int))).2.2 % 3) 0) (hc : hasM M ((sent - min sent ((Sym.rowAt a3 l (Int.toNat (i : Int))).2.1 % 4 % 18446744073709551616)) % 18446744073709551616) = true) (hm : (delM M ((sent - min sent ((Sym.rowAt a3 l (Int.toNat (i : Int))).2.1 % 4 % 18446744073709551616)) % 18446744073709551616)).length = 0) : Stp27 i (.pnd node writes sent L send ticks M clk) [lpP idn nodes l i [(0, 0), (1, 11), (2, 12), (3, 13), (4, 4)] (elseN nodes ((Sym.rowAt a3 l (Int.toNat (i : Int))).2.1 % nodes) ((Sym.rowAt a3 l (Int.toNat (i : Int))).2.2 % 9 - 1)) writes sent L true ticks (delM M ((sent - min sent ((Sym.rowAt a3 l (Int.toNat (i : Int))).2.1 % 4 % 18446744073709551616)) % 18446744073709551616)) clk]
  | pndTick (node writes sent : Int) (L : List ClR) (send : Bool) (ticks : Int) (M : KM) (clk : Nat) (m : Nat) (ha : @Eq Int ((Sym.rowAt a3 l (Int.toNat (i : Int))).1 % 5) 4) (hm : @Eq Int (m : Int) ((Sym.rowAt a3 l (Int.toNat (i : Int))).2.1 % 30)) : Stp27 i (.pnd node writes sent L send ticks M clk) [⟨15, [(0, 0), (1, 5), (2, 6), (3, 7), (4, 4)], tkC idn nodes node writes sent l L send ticks M clk i ((i : Int) + 1) 0, .leaf (.exit 3) (tkC idn nodes node writes sent l L send ticks M clk i ((i : Int) + 1) m)⟩, lpP idn nodes l i [(0, 0), (1, 5), (2, 6), (3, 7), (4, 4)] (tkN nodes (node, send, ticks) m) writes sent L (tkS nodes (node, send, ticks) m) (tkT nodes (node, send, ticks) m) M clk]
structure H27 : Prop where
  hn : n ≤ l.length ∧ n ≤ 150
  hn3 : n = min l.length 150
  hl : l.length ≤ 9223372036854775807
  hr : ∀ i : Nat, i < n → (@LE.le Int _ 0 ((Sym.rowAt a3 l (Int.toNat (i : Int))).1) ∧ @LT.lt Int _ ((Sym.rowAt a3 l (Int.toNat (i : Int))).1) 256) ∧ (@LE.le Int _ 0 ((Sym.rowAt a3 l (Int.toNat (i : Int))).2.1) ∧ @LT.lt Int _ ((Sym.rowAt a3 l (Int.toNat (i : Int))).2.1) 256) ∧ @LE.le Int _ 0 ((Sym.rowAt a3 l (Int.toNat (i : Int))).2.2) ∧ @LT.lt Int _ ((Sym.rowAt a3 l (Int.toNat (i : Int))).2.2) 256
  hid : 0 ≤ idn ∧ idn < 256
  hno : nodes = 1 + idn % 7
def P27 (p : Nat × S27 × List LpD) : Prop := p.1 ≤ n ∧ Inv27 idn nodes p.1 p.2.1 ∧ (p.1 < n → Stp27 idn nodes l p.1 p.2.1 p.2.2) ∧ ∀ N, ∀ y ∈ p.2.2, LpD.ok Try.prog N 0 (bodyAt Try.prog 5 8) y
abbrev X27 : Type := { p : Nat × S27 × List LpD // P27 idn nodes l n p }
noncomputable def onC (i : Nat) : S27 → CD
  | .non node => ⟨331, outS idn nodes 0 0 l i (i : Int) 1, [], nonH idn nodes node, 2⟩
  | .idl node writes sent L => ⟨331, outS idn nodes writes sent l i (i : Int) 2, [], idlH idn nodes node writes sent L, 3⟩
  | .pnd node writes sent L send ticks M clk => ⟨331, outS idn nodes writes sent l i (i : Int) 4, [], pndH idn nodes node writes sent L send ticks M clk, 5⟩
noncomputable def endC : CD := ⟨331, [], [], [], 0⟩
noncomputable def RG (i : Nat) (s : S27) (ls : List LpD) (h : P27 idn nodes l n (i, s, ls)) : Prop := cfgK (onC idn nodes l i s) fun c => compW Try.prog (callW Try.prog (knHW htCl (knW tabCl)) 4 6) 4 none (lpsW 0 ls) (bodyAt Try.prog 5 8) c (RoundW 0 (fun x : X27 idn nodes l n => onC idn nodes l x.1.1 x.1.2.1) (fun x => n - x.1.1) (fun _ => .leaf (.exit 0) endC) ⟨(i, s, ls), h⟩)
end
end Go.Proofs.Ytlfhiophojahbaa
end

section
namespace Go.Proofs.Ytlfhiophojahbaa
open Go.Sym
set_option linter.unusedVariables false
set_option linter.unusedSimpArgs false
set_option maxRecDepth 100000
set_option maxHeartbeats 4000000
section
variable (idn nodes : Int) (l : List (Int × Int × Int)) (n i : Nat)
theorem rd_nonNext (node : Int) (ls' : List LpD) (H : H27 idn nodes l n) (hlt : i < n) (ha : @Eq Int ((Sym.rowAt a3 l (Int.toNat (i : Int))).1 % 5) 1 ∨ @Eq Int ((Sym.rowAt a3 l (Int.toNat (i : Int))).1 % 5) 2) (h) (h' : P27 idn nodes l n (i + 1, .non node, ls')) : RG idn nodes l n i (.non node) [] h := by
  obtain ⟨hn, hn3, hl, hr, hid, hno⟩ := H
  obtain ⟨⟨r1, r2⟩, ⟨r3, r4⟩, r5, r6⟩ := hr i hlt
  have es : ((i : Int) + 1) % 18446744073709551616 = (i : Int) + 1 := Int.emod_eq_of_lt (by omega) (by omega)
  rcases ha with ha | ha
  all_goals
    repeat' ((conv => whnf); first | (with_reducible first | (refine W1.o ?_; constructor) | rfl | exact castL_self _ _) | ((with_reducible refine V.same_t ?_); exact rfl) | ((with_reducible refine andB_room ?_ ?_ ?_); (· kernel_rfl); (· (first | omega | (simp only [lens] <;> omega) | (decide +kernel) | (simp only [maxI_eq, pmGet_eq, pmHas_eq, pmPut_eq, pmClk_eq, pmDel_eq] <;> decide +kernel)))) | ((with_reducible refine W2.o ?_; constructor); · (first | (with_reducible assumption) | (first | omega | (simp only [lens] <;> omega) | (decide +kernel) | (simp only [maxI_eq, pmGet_eq, pmHas_eq, pmPut_eq, pmClk_eq, pmDel_eq] <;> decide +kernel)))) | ((with_reducible refine W3.o ?_; constructor); · (first | (with_reducible assumption) | (first | omega | (simp only [lens] <;> omega) | (decide +kernel) | (simp only [maxI_eq, pmGet_eq, pmHas_eq, pmPut_eq, pmClk_eq, pmDel_eq] <;> decide +kernel)))) | ((with_reducible refine W4.o ?_; constructor); · (first | (with_reducible first | assumption | exact decide_eq_true rfl | exact sEq_self _) | ((with_reducible refine eqOK_i ?_); kernel_rfl) | (simp only [maxI_eq, pmGet_eq, pmHas_eq, pmPut_eq, pmClk_eq, pmDel_eq] <;> decide +kernel))) | ((with_reducible refine iteB_f ?_ ?_); · (first | (with_reducible first | assumption | exact decide_eq_true rfl | exact sEq_self _) | ((with_reducible refine eqOK_i ?_); kernel_rfl) | (simp only [maxI_eq, pmGet_eq, pmHas_eq, pmPut_eq, pmClk_eq, pmDel_eq] <;> decide +kernel))) | (refine ⟨⟨(i + 1, .non node, ls'), h'⟩, ?_, rfl, ?_⟩) | (with_reducible refine CD.wk_au ?_) | (with_reducible refine W5.o ?_; constructor) | ((with_reducible refine W6.o ?_; constructor) <;> intro hB))
    all_goals ((conv => whnf); (try dsimp only); (try simp only [Nat.succ_eq_add_one, Nat.le_eq, castL_self]); (try omega))
    all_goals (try (first | omega | (simp only [lens] <;> omega) | (decide +kernel) | (simp only [maxI_eq, pmGet_eq, pmHas_eq, pmPut_eq, pmClk_eq, pmDel_eq] <;> decide +kernel)))
    all_goals first
      | exact rfl
      | trace_state
theorem rd_nonTell (node : Int) (ls' : List LpD) (H : H27 idn nodes l n) (hlt : i < n) (ha : @Eq Int ((Sym.rowAt a3 l (Int.toNat (i : Int))).1 % 5) 3) (h) (h' : P27 idn nodes l n (i + 1, .non node, ls')) : RG idn nodes l n i (.non node) [] h := by
  obtain ⟨hn, hn3, hl, hr, hid, hno⟩ := H
  obtain ⟨⟨r1, r2⟩, ⟨r3, r4⟩, r5, r6⟩ := hr i hlt
  have es : ((i : Int) + 1) % 18446744073709551616 = (i : Int) + 1 := Int.emod_eq_of_lt (by omega) (by omega)
  have em : ∀ d : Int, pmDel (.int .u64) (.int .i64) (mpV (.int .i64) (1 : Int) []) d = mpV (.int .i64) (1 : Int) [] := fun d => by rw [del_mp, del_nil]
  repeat' ((conv => whnf); first | (with_reducible first | (refine W1.o ?_; constructor) | rfl | exact castL_self _ _) | ((with_reducible refine V.same_t ?_); exact rfl) | ((with_reducible refine andB_room ?_ ?_ ?_); (· kernel_rfl); (· (first | omega | (simp only [lens] <;> omega) | (decide +kernel) | (simp only [maxI_eq, pmGet_eq, pmHas_eq, pmPut_eq, pmClk_eq, pmDel_eq] <;> decide +kernel)))) | ((with_reducible refine W2.o ?_; constructor); · (first | (with_reducible assumption) | (first | omega | (simp only [lens] <;> omega) | (decide +kernel) | (simp only [maxI_eq, pmGet_eq, pmHas_eq, pmPut_eq, pmClk_eq, pmDel_eq] <;> decide +kernel)))) | ((with_reducible refine W3.o ?_; constructor); · (first | (with_reducible assumption) | (first | omega | (simp only [lens] <;> omega) | (decide +kernel) | (simp only [maxI_eq, pmGet_eq, pmHas_eq, pmPut_eq, pmClk_eq, pmDel_eq] <;> decide +kernel)))) | ((with_reducible refine W4.o ?_; constructor); · (first | (with_reducible first | assumption | exact decide_eq_true rfl | exact sEq_self _) | ((with_reducible refine eqOK_i ?_); kernel_rfl) | (simp only [maxI_eq, pmGet_eq, pmHas_eq, pmPut_eq, pmClk_eq, pmDel_eq] <;> decide +kernel))) | ((with_reducible refine iteB_f ?_ ?_); · (first | (with_reducible first | assumption | exact decide_eq_true rfl | exact sEq_self _) | ((with_reducible refine eqOK_i ?_); kernel_rfl) | (simp only [maxI_eq, pmGet_eq, pmHas_eq, pmPut_eq, pmClk_eq, pmDel_eq] <;> decide +kernel))) | (refine ⟨⟨(i + 1, .non node, ls'), h'⟩, ?_, rfl, ?_⟩) | (with_reducible refine CD.wk_au ?_) | (with_reducible refine W5.o ?_; constructor) | ((with_reducible refine W6.o ?_; constructor) <;> intro hB))
  all_goals ((conv => whnf); (try dsimp only); (try simp only [Nat.succ_eq_add_one, Nat.le_eq, castL_self]); (try omega))
  all_goals (try (first | omega | (simp only [lens] <;> omega) | (decide +kernel) | (simp only [maxI_eq, pmGet_eq, pmHas_eq, pmPut_eq, pmClk_eq, pmDel_eq] <;> decide +kernel)))
  all_goals first
    | exact rfl
    | exact em _
    | trace_state
theorem rd_nonTick (node : Int) (ls' : List LpD) (m : Nat) (hm : @Eq Int (m : Int) ((Sym.rowAt a3 l (Int.toNat (i : Int))).2.1 % 30)) (H : H27 idn nodes l n) (hlt : i < n) (ha : @Eq Int ((Sym.rowAt a3 l (Int.toNat (i : Int))).1 % 5) 4) (h) (h' : P27 idn nodes l n (i + 1, .non node, ls')) : RG idn nodes l n i (.non node) [⟨15, [(0, 0), (1, 1)], tnC idn nodes node l i ((i : Int) + 1) 0, .leaf (.exit 3) (tnC idn nodes node l i ((i : Int) + 1) m)⟩] h := by
  obtain ⟨hn, hn3, hl, hr, hid, hno⟩ := H
  obtain ⟨⟨r1, r2⟩, ⟨r3, r4⟩, r5, r6⟩ := hr i hlt
  have es : ((i : Int) + 1) % 18446744073709551616 = (i : Int) + 1 := Int.emod_eq_of_lt (by omega) (by omega)
  repeat' ((conv => whnf); first | (with_reducible first | (refine W1.o ?_; constructor) | rfl | exact castL_self _ _) | ((with_reducible refine V.same_t ?_); exact rfl) | ((with_reducible refine andB_room ?_ ?_ ?_); (· kernel_rfl); (· (first | omega | (simp only [lens] <;> omega) | (decide +kernel) | (simp only [maxI_eq, pmGet_eq, pmHas_eq, pmPut_eq, pmClk_eq, pmDel_eq] <;> decide +kernel)))) | ((with_reducible refine W2.o ?_; constructor); · (first | (with_reducible assumption) | (first | omega | (simp only [lens] <;> omega) | (decide +kernel) | (simp only [maxI_eq, pmGet_eq, pmHas_eq, pmPut_eq, pmClk_eq, pmDel_eq] <;> decide +kernel)))) | ((with_reducible refine W3.o ?_; constructor); · (first | (with_reducible assumption) | (first | omega | (simp only [lens] <;> omega) | (decide +kernel) | (simp only [maxI_eq, pmGet_eq, pmHas_eq, pmPut_eq, pmClk_eq, pmDel_eq] <;> decide +kernel)))) | ((with_reducible refine W4.o ?_; constructor); · (first | (with_reducible first | assumption | exact decide_eq_true rfl | exact sEq_self _) | ((with_reducible refine eqOK_i ?_); kernel_rfl) | (simp only [maxI_eq, pmGet_eq, pmHas_eq, pmPut_eq, pmClk_eq, pmDel_eq] <;> decide +kernel))) | ((with_reducible refine iteB_f ?_ ?_); · (first | (with_reducible first | assumption | exact decide_eq_true rfl | exact sEq_self _) | ((with_reducible refine eqOK_i ?_); kernel_rfl) | (simp only [maxI_eq, pmGet_eq, pmHas_eq, pmPut_eq, pmClk_eq, pmDel_eq] <;> decide +kernel))) | (refine ⟨⟨(i + 1, .non node, ls'), h'⟩, ?_, rfl, ?_⟩) | (with_reducible refine CD.wk_au ?_) | (with_reducible refine W5.o ?_; constructor) | ((with_reducible refine W6.o ?_; constructor) <;> intro hB))
  all_goals ((conv => whnf); (try dsimp only); (try simp only [Nat.succ_eq_add_one, Nat.le_eq, castL_self]); (try omega))
  all_goals (try (first | omega | (simp only [lens] <;> omega) | (decide +kernel) | (simp only [maxI_eq, pmGet_eq, pmHas_eq, pmPut_eq, pmClk_eq, pmDel_eq] <;> decide +kernel)))
  all_goals first
    | exact rfl
    | trace_state
theorem rd_nonPut (node : Int) (ls' : List LpD) (H : H27 idn nodes l n) (hlt : i < n) (ha : @Eq Int ((Sym.rowAt a3 l (Int.toNat (i : Int))).1 % 5) 0) (hb : ¬ @Eq Int ((Sym.rowAt a3 l (Int.toNat (i : Int))).2.1 % 3) 0) (h : P27 idn nodes l n (i, .non node, [lpP idn nodes l i [(0, 0), (1, 7), (2, 8), (3, 9), (4, 6)] node 1 0 [begR (idn + 1) 1 (putR ⟨#[118]⟩) ((i : Int) + 1)] true 0 [] 0])) (h' : P27 idn nodes l n (i + 1, .pnd node 1 0 [begR (idn + 1) 1 (putR ⟨#[118]⟩) ((i : Int) + 1)] true 0 [] 0, ls')) : RG idn nodes l n i (.non node) [lpP idn nodes l i [(0, 0), (1, 7), (2, 8), (3, 9), (4, 6)] node 1 0 [begR (idn + 1) 1 (putR ⟨#[118]⟩) ((i : Int) + 1)] true 0 [] 0] h := by
  obtain ⟨hn, hn3, hl, hr, hid, hno⟩ := H
  obtain ⟨⟨r1, r2⟩, ⟨r3, r4⟩, r5, r6⟩ := hr i hlt
  have es : ((i : Int) + 1) % 18446744073709551616 = (i : Int) + 1 := Int.emod_eq_of_lt (by omega) (by omega)
  repeat' ((conv => whnf); first | (with_reducible first | (refine W1.o ?_; constructor) | rfl | exact castL_self _ _) | ((with_reducible refine V.same_t ?_); exact rfl) | ((with_reducible refine andB_room ?_ ?_ ?_); (· kernel_rfl); (· (first | omega | (simp only [lens] <;> omega) | (decide +kernel) | (simp only [maxI_eq, pmGet_eq, pmHas_eq, pmPut_eq, pmClk_eq, pmDel_eq] <;> decide +kernel)))) | ((with_reducible refine W2.o ?_; constructor); · (first | (with_reducible assumption) | (first | omega | (simp only [lens] <;> omega) | (decide +kernel) | (simp only [maxI_eq, pmGet_eq, pmHas_eq, pmPut_eq, pmClk_eq, pmDel_eq] <;> decide +kernel)))) | ((with_reducible refine W3.o ?_; constructor); · (first | (with_reducible assumption) | (first | omega | (simp only [lens] <;> omega) | (decide +kernel) | (simp only [maxI_eq, pmGet_eq, pmHas_eq, pmPut_eq, pmClk_eq, pmDel_eq] <;> decide +kernel)))) | ((with_reducible refine W4.o ?_; constructor); · (first | (with_reducible first | assumption | exact decide_eq_true rfl | exact sEq_self _) | ((with_reducible refine eqOK_i ?_); kernel_rfl) | (first | (exact hq) | (simp only [maxI_eq, pmGet_eq, pmHas_eq, pmPut_eq, pmClk_eq, pmDel_eq] <;> decide +kernel)))) | ((with_reducible refine iteB_f ?_ ?_); · (first | (with_reducible first | assumption | exact decide_eq_true rfl | exact sEq_self _) | ((with_reducible refine eqOK_i ?_); kernel_rfl) | (first | (exact hq) | (simp only [maxI_eq, pmGet_eq, pmHas_eq, pmPut_eq, pmClk_eq, pmDel_eq] <;> decide +kernel)))) | (refine ⟨⟨(i + 1, .pnd node 1 0 [begR (idn + 1) 1 (putR ⟨#[118]⟩) ((i : Int) + 1)] true 0 [] 0, ls'), h'⟩, ?_, rfl, ?_⟩) | (with_reducible refine CD.wk_au ?_) | (with_reducible refine W5.o ?_; constructor) | ((with_reducible refine W6.o ?_; constructor) <;> intro hB))
  all_goals ((conv => whnf); (try dsimp only); (try simp only [Nat.succ_eq_add_one, Nat.le_eq, castL_self]); (try omega))
  all_goals (try (first | omega | (simp only [lens] <;> omega) | (decide +kernel) | (simp only [maxI_eq, pmGet_eq, pmHas_eq, pmPut_eq, pmClk_eq, pmDel_eq] <;> decide +kernel)))
  all_goals first
    | exact rfl
    | (rw [es]; exact rfl)
    | exact congrArg (fun z => [begR 0 0 getR z]) es
    | trace_state
theorem rd_nonGet (node : Int) (ls' : List LpD) (H : H27 idn nodes l n) (hlt : i < n) (ha : @Eq Int ((Sym.rowAt a3 l (Int.toNat (i : Int))).1 % 5) 0) (hb : @Eq Int ((Sym.rowAt a3 l (Int.toNat (i : Int))).2.1 % 3) 0) (h : P27 idn nodes l n (i, .non node, [lpP idn nodes l i [(0, 0), (1, 7), (2, 8), (3, 9), (4, 6)] node 0 0 [begR 0 0 getR ((i : Int) + 1)] true 0 [] 0])) (h' : P27 idn nodes l n (i + 1, .pnd node 0 0 [begR 0 0 getR ((i : Int) + 1)] true 0 [] 0, ls')) : RG idn nodes l n i (.non node) [lpP idn nodes l i [(0, 0), (1, 7), (2, 8), (3, 9), (4, 6)] node 0 0 [begR 0 0 getR ((i : Int) + 1)] true 0 [] 0] h := by
  obtain ⟨hn, hn3, hl, hr, hid, hno⟩ := H
  obtain ⟨⟨r1, r2⟩, ⟨r3, r4⟩, r5, r6⟩ := hr i hlt
  have es : ((i : Int) + 1) % 18446744073709551616 = (i : Int) + 1 := Int.emod_eq_of_lt (by omega) (by omega)
  repeat' ((conv => whnf); first | (with_reducible first | (refine W1.o ?_; constructor) | rfl | exact castL_self _ _) | ((with_reducible refine V.same_t ?_); exact rfl) | ((with_reducible refine andB_room ?_ ?_ ?_); (· kernel_rfl); (· (first | omega | (simp only [lens] <;> omega) | (decide +kernel) | (simp only [maxI_eq, pmGet_eq, pmHas_eq, pmPut_eq, pmClk_eq, pmDel_eq] <;> decide +kernel)))) | ((with_reducible refine W2.o ?_; constructor); · (first | (with_reducible assumption) | (first | omega | (simp only [lens] <;> omega) | (decide +kernel) | (simp only [maxI_eq, pmGet_eq, pmHas_eq, pmPut_eq, pmClk_eq, pmDel_eq] <;> decide +kernel)))) | ((with_reducible refine W3.o ?_; constructor); · (first | (with_reducible assumption) | (first | omega | (simp only [lens] <;> omega) | (decide +kernel) | (simp only [maxI_eq, pmGet_eq, pmHas_eq, pmPut_eq, pmClk_eq, pmDel_eq] <;> decide +kernel)))) | ((with_reducible refine W4.o ?_; constructor); · (first | (with_reducible first | assumption | exact decide_eq_true rfl | exact sEq_self _) | ((with_reducible refine eqOK_i ?_); kernel_rfl) | (first | (exact hq) | (simp only [maxI_eq, pmGet_eq, pmHas_eq, pmPut_eq, pmClk_eq, pmDel_eq] <;> decide +kernel)))) | ((with_reducible refine iteB_f ?_ ?_); · (first | (with_reducible first | assumption | exact decide_eq_true rfl | exact sEq_self _) | ((with_reducible refine eqOK_i ?_); kernel_rfl) | (first | (exact hq) | (simp only [maxI_eq, pmGet_eq, pmHas_eq, pmPut_eq, pmClk_eq, pmDel_eq] <;> decide +kernel)))) | (refine ⟨⟨(i + 1, .pnd node 0 0 [begR 0 0 getR ((i : Int) + 1)] true 0 [] 0, ls'), h'⟩, ?_, rfl, ?_⟩) | (with_reducible refine CD.wk_au ?_) | (with_reducible refine W5.o ?_; constructor) | ((with_reducible refine W6.o ?_; constructor) <;> intro hB))
  all_goals ((conv => whnf); (try dsimp only); (try simp only [Nat.succ_eq_add_one, Nat.le_eq, castL_self]); (try omega))
  all_goals (try (first | omega | (simp only [lens] <;> omega) | (decide +kernel) | (simp only [maxI_eq, pmGet_eq, pmHas_eq, pmPut_eq, pmClk_eq, pmDel_eq] <;> decide +kernel)))
  all_goals first
    | exact rfl
    | (rw [es]; exact rfl)
    | exact congrArg (fun z => [begR 0 0 getR z]) es
    | trace_state
end
end Go.Proofs.Ytlfhiophojahbaa
end
