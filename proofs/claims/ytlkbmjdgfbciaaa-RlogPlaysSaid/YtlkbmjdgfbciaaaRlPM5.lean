/-
  Texts of this claim, one behind the other: RlA RlB RlC RlD RlE RlCl RlWorks RlF RlG SymHp SymHq. Each says its own conditions.
-/
import Derived.Test.YtlkbmjdgfbciaaaRlPM4
import Derived.Test.YtlkbmjdgfbciaaaProg
import Derived.KernelRfl
import Derived.Laws.AppendOwn
import Derived.OwnWalk
import Derived.Lib.SliceRun

set_option linter.unusedVariables false
set_option linter.unusedSimpArgs false
set_option linter.unusedSectionVars false
section
namespace Go.Proofs.Ytlkbmjdgfbciaaa
open Go.Sym
set_option linter.unusedVariables false
set_option linter.unusedSimpArgs false
set_option maxRecDepth 100000
set_option maxHeartbeats 4000000

abbrev entE : List Ty := [.int .u64, .int .u64, .str]
abbrev EnR := Int × Int × ByteArray
abbrev rowE (L : List EnR) (i : Nat) : EnR := Sym.rowAt entE L i
noncomputable def aheadE : Int → Int → List EnR → Nat → EnR := hide fun i0 t0 L i => if i = 0 then (t0, i0, ⟨#[]⟩) else rowE L (i - 1)
theorem aheadE_0 (i0 t0 : Int) (L : List EnR) : aheadE i0 t0 L 0 = (t0, i0, ⟨#[]⟩) := by unfold aheadE; rw [hide_eq]; rfl
theorem aheadE_succ (i0 t0 : Int) (L : List EnR) (i : Nat) : aheadE i0 t0 L (i + 1) = rowE L i := by unfold aheadE; rw [hide_eq]; rfl
def okE (a e : EnR) : Prop := e.2.1 = (a.2.1 + 1) % 18446744073709551616 ∧ e.2.1 ≤ 1099511627776 ∧ a.1 ≤ e.1 ∧ e.1 ≠ 0 ∧ (e.2.2.size : Int) ≤ 4000
instance (a e : EnR) : Decidable (okE a e) := by unfold okE; exact inferInstance
noncomputable def folL : Int → Int → List EnR → Bool := hide fun i0 t0 L => decide (∀ i < L.length, okE (aheadE i0 t0 L i) (rowE L i))
theorem folL_eq (i0 t0 : Int) (L : List EnR) : folL i0 t0 L = decide (∀ i < L.length, okE (aheadE i0 t0 L i) (rowE L i)) := by unfold folL; rw [hide_eq]
theorem folL_ok {i0 t0 : Int} {L : List EnR} (h : ∀ i < L.length, okE (aheadE i0 t0 L i) (rowE L i)) : folL i0 t0 L = true := by rw [folL_eq]; exact decide_eq_true h
theorem folL_no {i0 t0 : Int} {L : List EnR} (i : Nat) (hi : i < L.length) (h : ¬ okE (aheadE i0 t0 L i) (rowE L i)) : folL i0 t0 L = false := by rw [folL_eq]; exact decide_eq_false fun g => h (g i hi)

noncomputable def rfOf (c : Code) : Option (Code × Code) :=
  @Code.rec (fun _ => Option (Code × Code)) none (fun _ _ _ => none)
    (fun _ _ ia ib => match ia with
      | some r => some r
      | none => ib)
    (fun _ _ _ ia ib => match ia with
      | some r => some r
      | none => ib)
    (fun _ _ ib => ib) (fun _ ib => ib) (fun _ _ assign body _ _ => some (assign, body)) (fun _ => none) (fun _ ib => ib) (fun _ => none) (fun _ => none) none (fun _ => none) c
noncomputable def rfA (c : Code) : Code := match rfOf c with
  | some r => r.1
  | none => .skip
noncomputable def rfB (c : Code) : Code := match rfOf c with
  | some r => r.2
  | none => .skip
section
variable (i0 t0 : Int) (L : List EnR)
noncomputable def fwH (st : LoopState) (pd : Option Code) (a : EnR) : List (Nat × EObj) := [(0, .cells [.bool false] 4 false), (1, .cells [.int .u64 i0] 56 false), (2, .cells [.int .u64 t0] 56 false), (3, .cells [.lst entE L false] 0 false),
  (4, .dfr false), (5, .loop ⟨st, pd, mkFrm 44 (slots 44 [(6, .ptr 0 0)]), [13, 14], rfA (bodyOf Try.prog 49), rfB (bodyOf Try.prog 49), 4⟩), (6, .cells [.int .u64 a.1, .int .u64 a.2.1, .str a.2.2] 0 false)]
noncomputable def fwC (i : Nat) : CD := ⟨24, [(0, .yld 5), (1, .ptr 1 0), (2, .ptr 2 0), (3, .ptr 3 0), (5, .ptr 6 0), (11, .lst entE L false), (12, .int .i64 ((List.length (α := EnR) L : Nat) : Int)), (13, .int .i64 (i : Int))], [], fwH i0 t0 L .ready none (aheadE i0 t0 L i), 7⟩
noncomputable def fwE : CD := ⟨24, [], [], fwH i0 t0 L .ready none (aheadE i0 t0 L (List.length (α := EnR) L)), 7⟩
noncomputable def fwN : CD := ⟨24, [], [], (fwH i0 t0 L .done (some .ret) (0, 0, ⟨#[]⟩)).take 6, 7⟩
noncomputable def fwO : OD := .ite (folL i0 t0 L) (.leaf (.exit 0) (fwE i0 t0 L)) (.leaf .ret (fwN i0 t0 L))
theorem fw_loop (hL : L.length ≤ 9223372036854775807) (N : Nat) : LpD.ok Try.prog N 6 (bodyOf Try.prog 63) ⟨2, [(6, 6)], fwC i0 t0 L 0, fwO i0 t0 L⟩ := by
  refine LpD.ok_one (b := bodyAt Try.prog 63 2) rfl (loop_W noTab_ok (fuel := 3) (d := 5) (X := { i : Nat // i ≤ L.length ∧ ∀ j < i, okE (aheadE i0 t0 L j) (rowE L j) }) (fun x => fwC i0 t0 L x.1) (fun x => L.length - x.1)
    (fun _ => fwO i0 t0 L) (fun _ => noLpW) (fun _ => noLp) (fun _ => noLp_ad) (fun _ => noLp_ok _) ?_ ⟨0, Nat.zero_le _, fun _ h => absurd h (Nat.not_lt_zero _)⟩)
  rintro ⟨i, hi, hI⟩
  dsimp only
  have hs := aheadE_succ i0 t0 L i
  rcases Nat.lt_or_ge i L.length with hlt | hge
  · by_cases hk : okE (aheadE i0 t0 L i) (Sym.rowAt entE L (Int.toNat (i : Int)))
    · have hI' : ∀ j < i + 1, okE (aheadE i0 t0 L j) (rowE L j) := fun j hj => by
        rcases Nat.lt_or_ge j i with h | h
        · exact hI j h
        · obtain rfl : j = i := by omega
          exact hk
      unfold okE at hk
      repeat' (conv => whnf
               first | (with_reducible first | exact True.intro | rfl | exact castL_self _ _ | refine iteB_n ?_ | refine iteB_ct ?_ | refine iteB_cf ?_ | refine iteB_bt ?_ | refine iteB_bf ?_ | refine iteB_tb ?_ | refine iteB_fb ?_) | ((with_reducible refine V.same_t ?_); exact rfl) | ((with_reducible refine andB_room ?_ ?_ ?_); (· kernel_rfl); (· (first | omega | (simp only [lens] <;> omega)))) | ((with_reducible first | refine andB_in ?_ ?_ | refine andB_d ?_ ?_ | refine andB_lt ?_ ?_ | refine andB_le ?_ ?_ | refine iteB_ltt ?_ ?_ | refine iteB_let ?_ ?_ | refine iteB_dt ?_ ?_); · (first | (with_reducible assumption) | (first | omega | (simp only [lens] <;> omega)))) | ((with_reducible first | refine iteB_ltf ?_ ?_ | refine iteB_lef ?_ ?_ | refine iteB_df ?_ ?_); · (first | (with_reducible assumption) | (first | omega | (simp only [lens] <;> omega)))) | ((with_reducible first | refine andB_i ?_ ?_ | refine iteB_t ?_ ?_); · (first | (with_reducible first | assumption | exact decide_eq_true rfl | exact sEq_self _) | ((with_reducible refine eqOK_i ?_); kernel_rfl))) | ((with_reducible refine iteB_f ?_ ?_); · (first | (with_reducible first | assumption | exact decide_eq_true rfl | exact sEq_self _) | ((with_reducible refine eqOK_i ?_); kernel_rfl))) | (refine ⟨⟨i + 1, hlt, hI'⟩, ?_, rfl, ?_⟩) | (with_reducible refine ⟨_, _, rfl, ?_⟩) | (with_reducible refine CD.wk_au ?_) | (with_reducible first | refine andB_in ?_ ?_ | refine andB_lt ?_ ?_ | refine andB_le ?_ ?_ | refine andB_d ?_ ?_ | refine andB_i ?_ ?_ | refine iteB_lts (fun hB => ?_) (fun hB => ?_) | refine iteB_les (fun hB => ?_) (fun hB => ?_) | refine iteB_ds (fun hB => ?_) (fun hB => ?_) | refine iteB_s (fun hB => ?_) (fun hB => ?_) | refine CD.wk_as ?_ | refine And.intro ?_ ?_))
      all_goals ((conv => whnf); (try dsimp only); (try simp only [Nat.succ_eq_add_one, Nat.le_eq, castL_self]); (try omega))
      all_goals (try (first | omega | (simp only [lens] <;> omega)))
      all_goals first
        | (rw [hs]; rfl)
        | trace_state
    · have hf : folL i0 t0 L = false := folL_no i hlt hk
      unfold okE at hk
      repeat' (conv => whnf
               first | (with_reducible first | exact True.intro | rfl | exact castL_self _ _ | refine iteB_n ?_ | refine iteB_ct ?_ | refine iteB_cf ?_ | refine iteB_bt ?_ | refine iteB_bf ?_ | refine iteB_tb ?_ | refine iteB_fb ?_) | ((with_reducible refine V.same_t ?_); exact rfl) | ((with_reducible refine andB_room ?_ ?_ ?_); (· kernel_rfl); (· (first | omega | (simp only [lens] <;> omega)))) | ((with_reducible first | refine andB_in ?_ ?_ | refine andB_d ?_ ?_ | refine andB_lt ?_ ?_ | refine andB_le ?_ ?_ | refine iteB_ltt ?_ ?_ | refine iteB_let ?_ ?_ | refine iteB_dt ?_ ?_); · (first | (with_reducible assumption) | (first | omega | (simp only [lens] <;> omega)))) | ((with_reducible first | refine iteB_ltf ?_ ?_ | refine iteB_lef ?_ ?_ | refine iteB_df ?_ ?_); · (first | (with_reducible assumption) | (first | omega | (simp only [lens] <;> omega)))) | ((with_reducible first | refine andB_i ?_ ?_ | refine iteB_t ?_ ?_); · (first | (with_reducible first | assumption | exact decide_eq_true rfl | exact sEq_self _) | ((with_reducible refine eqOK_i ?_); kernel_rfl))) | ((with_reducible refine iteB_f ?_ ?_); · (first | (with_reducible first | assumption | exact decide_eq_true rfl | exact sEq_self _) | ((with_reducible refine eqOK_i ?_); kernel_rfl))) | (with_reducible refine ⟨_, _, rfl, ?_⟩) | (with_reducible refine CD.wk_au ?_) | (with_reducible first | refine andB_in ?_ ?_ | refine andB_lt ?_ ?_ | refine andB_le ?_ ?_ | refine andB_d ?_ ?_ | refine andB_i ?_ ?_ | refine iteB_lts (fun hB => ?_) (fun hB => ?_) | refine iteB_les (fun hB => ?_) (fun hB => ?_) | refine iteB_ds (fun hB => ?_) (fun hB => ?_) | refine iteB_s (fun hB => ?_) (fun hB => ?_) | refine CD.wk_as ?_ | refine And.intro ?_ ?_))
      all_goals ((conv => whnf); (try dsimp only); (try simp only [Nat.succ_eq_add_one, Nat.le_eq, castL_self]); (try omega))
      all_goals (try (first | omega | (simp only [lens] <;> omega)))
      all_goals trace_state
  · have he : i = L.length := Nat.le_antisymm hi hge
    subst he
    have hf : folL i0 t0 L = true := folL_ok hI
    repeat' (conv => whnf
             first | (with_reducible first | exact True.intro | rfl | exact castL_self _ _ | refine iteB_n ?_ | refine iteB_ct ?_ | refine iteB_cf ?_ | refine iteB_bt ?_ | refine iteB_bf ?_ | refine iteB_tb ?_ | refine iteB_fb ?_) | ((with_reducible refine V.same_t ?_); exact rfl) | ((with_reducible refine andB_room ?_ ?_ ?_); (· kernel_rfl); (· (first | omega | (simp only [lens] <;> omega)))) | ((with_reducible first | refine andB_in ?_ ?_ | refine andB_d ?_ ?_ | refine andB_lt ?_ ?_ | refine andB_le ?_ ?_ | refine iteB_ltt ?_ ?_ | refine iteB_let ?_ ?_ | refine iteB_dt ?_ ?_); · (first | (with_reducible assumption) | (first | omega | (simp only [lens] <;> omega)))) | ((with_reducible first | refine iteB_ltf ?_ ?_ | refine iteB_lef ?_ ?_ | refine iteB_df ?_ ?_); · (first | (with_reducible assumption) | (first | omega | (simp only [lens] <;> omega)))) | ((with_reducible first | refine andB_i ?_ ?_ | refine iteB_t ?_ ?_); · (first | (with_reducible first | assumption | exact decide_eq_true rfl | exact sEq_self _) | ((with_reducible refine eqOK_i ?_); kernel_rfl))) | ((with_reducible refine iteB_f ?_ ?_); · (first | (with_reducible first | assumption | exact decide_eq_true rfl | exact sEq_self _) | ((with_reducible refine eqOK_i ?_); kernel_rfl))) | (with_reducible refine ⟨_, _, rfl, ?_⟩) | (with_reducible refine CD.wk_au ?_) | (with_reducible first | refine andB_in ?_ ?_ | refine andB_lt ?_ ?_ | refine andB_le ?_ ?_ | refine andB_d ?_ ?_ | refine andB_i ?_ ?_ | refine iteB_lts (fun hB => ?_) (fun hB => ?_) | refine iteB_les (fun hB => ?_) (fun hB => ?_) | refine iteB_ds (fun hB => ?_) (fun hB => ?_) | refine iteB_s (fun hB => ?_) (fun hB => ?_) | refine CD.wk_as ?_ | refine And.intro ?_ ?_))
    all_goals ((conv => whnf); (try dsimp only); (try simp only [Nat.succ_eq_add_one, Nat.le_eq, castL_self]); (try omega))
    all_goals (try (first | omega | (simp only [lens] <;> omega)))
    all_goals trace_state
theorem follow_at (hL : L.length ≤ 9223372036854775807) : PureAt Try.prog 49 [.int .u64 i0, .int .u64 t0, .lst entE L false] (.bool (folL i0 t0 L)) := by
  refine pure_of_G noTab_ok (fuel := 3) (d := 5) [⟨63, 6, ⟨2, [(6, 6)], fwC i0 t0 L 0, fwO i0 t0 L⟩⟩] (fun g hg N => ?_) [] (fun _ _ h => by cases h) ?_
  · rw [List.mem_singleton.1 hg]
    exact fw_loop i0 t0 L hL N
  · have h0 := aheadE_0 i0 t0 L
    cases hf : folL i0 t0 L
    all_goals
      repeat' (conv => whnf
               first | (with_reducible first | exact True.intro | rfl | exact castL_self _ _ | refine iteB_n ?_ | refine iteB_ct ?_ | refine iteB_cf ?_ | refine iteB_bt ?_ | refine iteB_bf ?_ | refine iteB_tb ?_ | refine iteB_fb ?_) | ((with_reducible refine V.same_t ?_); exact rfl) | ((with_reducible refine andB_room ?_ ?_ ?_); (· kernel_rfl); (· (first | omega | (simp only [lens] <;> omega)))) | ((with_reducible first | refine andB_in ?_ ?_ | refine andB_d ?_ ?_ | refine andB_lt ?_ ?_ | refine andB_le ?_ ?_ | refine iteB_ltt ?_ ?_ | refine iteB_let ?_ ?_ | refine iteB_dt ?_ ?_); · (first | (with_reducible assumption) | (first | omega | (simp only [lens] <;> omega)))) | ((with_reducible first | refine iteB_ltf ?_ ?_ | refine iteB_lef ?_ ?_ | refine iteB_df ?_ ?_); · (first | (with_reducible assumption) | (first | omega | (simp only [lens] <;> omega)))) | ((with_reducible first | refine andB_i ?_ ?_ | refine iteB_t ?_ ?_); · (first | (with_reducible first | assumption | exact decide_eq_true rfl | exact sEq_self _) | ((with_reducible refine eqOK_i ?_); kernel_rfl))) | ((with_reducible refine iteB_f ?_ ?_); · (first | (with_reducible first | assumption | exact decide_eq_true rfl | exact sEq_self _) | ((with_reducible refine eqOK_i ?_); kernel_rfl))) | (with_reducible refine ⟨_, _, rfl, ?_⟩) | (with_reducible refine CD.wk_au ?_) | (with_reducible first | refine andB_in ?_ ?_ | refine andB_lt ?_ ?_ | refine andB_le ?_ ?_ | refine andB_d ?_ ?_ | refine andB_i ?_ ?_ | refine iteB_lts (fun hB => ?_) (fun hB => ?_) | refine iteB_les (fun hB => ?_) (fun hB => ?_) | refine iteB_ds (fun hB => ?_) (fun hB => ?_) | refine iteB_s (fun hB => ?_) (fun hB => ?_) | refine CD.wk_as ?_ | refine And.intro ?_ ?_))
      all_goals ((conv => whnf); (try dsimp only); (try simp only [Nat.succ_eq_add_one, Nat.le_eq, castL_self]); (try omega))
      all_goals (try (first | omega | (simp only [lens] <;> omega)))
    all_goals first
      | (rw [h0]; done)
      | (rw [h0]; rfl)
      | rfl
      | trace_state
noncomputable def rfC (i : Nat) : CD := ⟨50, [(0, .int .u64 (aheadE i0 t0 L i).2.1), (1, .int .u64 (aheadE i0 t0 L i).1), (2, .lst entE L false), (7, .int .i64 (i : Int))], [], [], 0⟩
noncomputable def rfE : CD := ⟨50, [], [], [], 0⟩
noncomputable def rfN : CD := ⟨50, [(6, .bool false)], [], [], 0⟩
noncomputable def rfO : OD := .ite (folL i0 t0 L) (.leaf (.exit 0) rfE) (.leaf .ret rfN)
theorem reffollow_at (hL : L.length ≤ 9223372036854775807) : PureAt Try.prog 52 [.int .u64 i0, .int .u64 t0, .lst entE L false] (.bool (folL i0 t0 L)) := by
  refine pure_of_loop noTab_ok (fuel := 3) (d := 3) 2 (X := { i : Nat // i ≤ L.length ∧ ∀ j < i, okE (aheadE i0 t0 L j) (rowE L j) })
    (fun x => rfC i0 t0 L x.1) (fun x => L.length - x.1) (fun _ => rfO i0 t0 L) ⟨0, Nat.zero_le _, fun _ h => absurd h (Nat.not_lt_zero _)⟩ [] rfl ?_ ?_
  · rintro ⟨i, hi, hI⟩
    dsimp only
    have hs := aheadE_succ i0 t0 L i
    rcases Nat.lt_or_ge i L.length with hlt | hge
    · by_cases hk : okE (aheadE i0 t0 L i) (Sym.rowAt entE L (Int.toNat (i : Int)))
      · have hI' : ∀ j < i + 1, okE (aheadE i0 t0 L j) (rowE L j) := fun j hj => by
          rcases Nat.lt_or_ge j i with h | h
          · exact hI j h
          · obtain rfl : j = i := by omega
            exact hk
        unfold okE at hk
        repeat' (conv => whnf
                 first | (with_reducible first | exact True.intro | rfl | exact castL_self _ _ | refine iteB_n ?_ | refine iteB_ct ?_ | refine iteB_cf ?_ | refine iteB_bt ?_ | refine iteB_bf ?_ | refine iteB_tb ?_ | refine iteB_fb ?_) | ((with_reducible refine V.same_t ?_); exact rfl) | ((with_reducible refine andB_room ?_ ?_ ?_); (· kernel_rfl); (· (first | omega | (simp only [lens] <;> omega)))) | ((with_reducible first | refine andB_in ?_ ?_ | refine andB_d ?_ ?_ | refine andB_lt ?_ ?_ | refine andB_le ?_ ?_ | refine iteB_ltt ?_ ?_ | refine iteB_let ?_ ?_ | refine iteB_dt ?_ ?_); · (first | (with_reducible assumption) | (first | omega | (simp only [lens] <;> omega)))) | ((with_reducible first | refine iteB_ltf ?_ ?_ | refine iteB_lef ?_ ?_ | refine iteB_df ?_ ?_); · (first | (with_reducible assumption) | (first | omega | (simp only [lens] <;> omega)))) | ((with_reducible first | refine andB_i ?_ ?_ | refine iteB_t ?_ ?_); · (first | (with_reducible first | assumption | exact decide_eq_true rfl | exact sEq_self _) | ((with_reducible refine eqOK_i ?_); kernel_rfl))) | ((with_reducible refine iteB_f ?_ ?_); · (first | (with_reducible first | assumption | exact decide_eq_true rfl | exact sEq_self _) | ((with_reducible refine eqOK_i ?_); kernel_rfl))) | (refine ⟨⟨i + 1, hlt, hI'⟩, ?_, rfl, ?_⟩) | (with_reducible refine ⟨_, _, rfl, ?_⟩) | (with_reducible refine CD.wk_au ?_) | (with_reducible first | refine andB_in ?_ ?_ | refine andB_lt ?_ ?_ | refine andB_le ?_ ?_ | refine andB_d ?_ ?_ | refine andB_i ?_ ?_ | refine iteB_lts (fun hB => ?_) (fun hB => ?_) | refine iteB_les (fun hB => ?_) (fun hB => ?_) | refine iteB_ds (fun hB => ?_) (fun hB => ?_) | refine iteB_s (fun hB => ?_) (fun hB => ?_) | refine CD.wk_as ?_ | refine And.intro ?_ ?_))
        all_goals ((conv => whnf); (try dsimp only); (try simp only [Nat.succ_eq_add_one, Nat.le_eq, castL_self]); (try omega))
        all_goals (try (first | omega | (simp only [lens] <;> omega)))
        all_goals first
          | (rw [hs]; rfl)
          | trace_state
      · have hf : folL i0 t0 L = false := folL_no i hlt hk
        unfold okE at hk
        repeat' (conv => whnf
                 first | (with_reducible first | exact True.intro | rfl | exact castL_self _ _ | refine iteB_n ?_ | refine iteB_ct ?_ | refine iteB_cf ?_ | refine iteB_bt ?_ | refine iteB_bf ?_ | refine iteB_tb ?_ | refine iteB_fb ?_) | ((with_reducible refine V.same_t ?_); exact rfl) | ((with_reducible refine andB_room ?_ ?_ ?_); (· kernel_rfl); (· (first | omega | (simp only [lens] <;> omega)))) | ((with_reducible first | refine andB_in ?_ ?_ | refine andB_d ?_ ?_ | refine andB_lt ?_ ?_ | refine andB_le ?_ ?_ | refine iteB_ltt ?_ ?_ | refine iteB_let ?_ ?_ | refine iteB_dt ?_ ?_); · (first | (with_reducible assumption) | (first | omega | (simp only [lens] <;> omega)))) | ((with_reducible first | refine iteB_ltf ?_ ?_ | refine iteB_lef ?_ ?_ | refine iteB_df ?_ ?_); · (first | (with_reducible assumption) | (first | omega | (simp only [lens] <;> omega)))) | ((with_reducible first | refine andB_i ?_ ?_ | refine iteB_t ?_ ?_); · (first | (with_reducible first | assumption | exact decide_eq_true rfl | exact sEq_self _) | ((with_reducible refine eqOK_i ?_); kernel_rfl))) | ((with_reducible refine iteB_f ?_ ?_); · (first | (with_reducible first | assumption | exact decide_eq_true rfl | exact sEq_self _) | ((with_reducible refine eqOK_i ?_); kernel_rfl))) | (with_reducible refine ⟨_, _, rfl, ?_⟩) | (with_reducible refine CD.wk_au ?_) | (with_reducible first | refine andB_in ?_ ?_ | refine andB_lt ?_ ?_ | refine andB_le ?_ ?_ | refine andB_d ?_ ?_ | refine andB_i ?_ ?_ | refine iteB_lts (fun hB => ?_) (fun hB => ?_) | refine iteB_les (fun hB => ?_) (fun hB => ?_) | refine iteB_ds (fun hB => ?_) (fun hB => ?_) | refine iteB_s (fun hB => ?_) (fun hB => ?_) | refine CD.wk_as ?_ | refine And.intro ?_ ?_))
        all_goals ((conv => whnf); (try dsimp only); (try simp only [Nat.succ_eq_add_one, Nat.le_eq, castL_self]); (try omega))
        all_goals (try (first | omega | (simp only [lens] <;> omega)))
        all_goals trace_state
    · have he : i = L.length := Nat.le_antisymm hi hge
      subst he
      have hf : folL i0 t0 L = true := folL_ok hI
      repeat' (conv => whnf
               first | (with_reducible first | exact True.intro | rfl | exact castL_self _ _ | refine iteB_n ?_ | refine iteB_ct ?_ | refine iteB_cf ?_ | refine iteB_bt ?_ | refine iteB_bf ?_ | refine iteB_tb ?_ | refine iteB_fb ?_) | ((with_reducible refine V.same_t ?_); exact rfl) | ((with_reducible refine andB_room ?_ ?_ ?_); (· kernel_rfl); (· (first | omega | (simp only [lens] <;> omega)))) | ((with_reducible first | refine andB_in ?_ ?_ | refine andB_d ?_ ?_ | refine andB_lt ?_ ?_ | refine andB_le ?_ ?_ | refine iteB_ltt ?_ ?_ | refine iteB_let ?_ ?_ | refine iteB_dt ?_ ?_); · (first | (with_reducible assumption) | (first | omega | (simp only [lens] <;> omega)))) | ((with_reducible first | refine iteB_ltf ?_ ?_ | refine iteB_lef ?_ ?_ | refine iteB_df ?_ ?_); · (first | (with_reducible assumption) | (first | omega | (simp only [lens] <;> omega)))) | ((with_reducible first | refine andB_i ?_ ?_ | refine iteB_t ?_ ?_); · (first | (with_reducible first | assumption | exact decide_eq_true rfl | exact sEq_self _) | ((with_reducible refine eqOK_i ?_); kernel_rfl))) | ((with_reducible refine iteB_f ?_ ?_); · (first | (with_reducible first | assumption | exact decide_eq_true rfl | exact sEq_self _) | ((with_reducible refine eqOK_i ?_); kernel_rfl))) | (with_reducible refine ⟨_, _, rfl, ?_⟩) | (with_reducible refine CD.wk_au ?_) | (with_reducible first | refine andB_in ?_ ?_ | refine andB_lt ?_ ?_ | refine andB_le ?_ ?_ | refine andB_d ?_ ?_ | refine andB_i ?_ ?_ | refine iteB_lts (fun hB => ?_) (fun hB => ?_) | refine iteB_les (fun hB => ?_) (fun hB => ?_) | refine iteB_ds (fun hB => ?_) (fun hB => ?_) | refine iteB_s (fun hB => ?_) (fun hB => ?_) | refine CD.wk_as ?_ | refine And.intro ?_ ?_))
      all_goals ((conv => whnf); (try dsimp only); (try simp only [Nat.succ_eq_add_one, Nat.le_eq, castL_self]); (try omega))
      all_goals (try (first | omega | (simp only [lens] <;> omega)))
      all_goals trace_state
  · have h0 := aheadE_0 i0 t0 L
    cases hf : folL i0 t0 L
    all_goals
      repeat' (conv => whnf
               first | (with_reducible first | exact True.intro | rfl | exact castL_self _ _ | refine iteB_n ?_ | refine iteB_ct ?_ | refine iteB_cf ?_ | refine iteB_bt ?_ | refine iteB_bf ?_ | refine iteB_tb ?_ | refine iteB_fb ?_) | ((with_reducible refine V.same_t ?_); exact rfl) | ((with_reducible refine andB_room ?_ ?_ ?_); (· kernel_rfl); (· (first | omega | (simp only [lens] <;> omega)))) | ((with_reducible first | refine andB_in ?_ ?_ | refine andB_d ?_ ?_ | refine andB_lt ?_ ?_ | refine andB_le ?_ ?_ | refine iteB_ltt ?_ ?_ | refine iteB_let ?_ ?_ | refine iteB_dt ?_ ?_); · (first | (with_reducible assumption) | (first | omega | (simp only [lens] <;> omega)))) | ((with_reducible first | refine iteB_ltf ?_ ?_ | refine iteB_lef ?_ ?_ | refine iteB_df ?_ ?_); · (first | (with_reducible assumption) | (first | omega | (simp only [lens] <;> omega)))) | ((with_reducible first | refine andB_i ?_ ?_ | refine iteB_t ?_ ?_); · (first | (with_reducible first | assumption | exact decide_eq_true rfl | exact sEq_self _) | ((with_reducible refine eqOK_i ?_); kernel_rfl))) | ((with_reducible refine iteB_f ?_ ?_); · (first | (with_reducible first | assumption | exact decide_eq_true rfl | exact sEq_self _) | ((with_reducible refine eqOK_i ?_); kernel_rfl))) | (with_reducible refine ⟨_, _, rfl, ?_⟩) | (with_reducible refine CD.wk_au ?_) | (with_reducible first | refine andB_in ?_ ?_ | refine andB_lt ?_ ?_ | refine andB_le ?_ ?_ | refine andB_d ?_ ?_ | refine andB_i ?_ ?_ | refine iteB_lts (fun hB => ?_) (fun hB => ?_) | refine iteB_les (fun hB => ?_) (fun hB => ?_) | refine iteB_ds (fun hB => ?_) (fun hB => ?_) | refine iteB_s (fun hB => ?_) (fun hB => ?_) | refine CD.wk_as ?_ | refine And.intro ?_ ?_))
      all_goals ((conv => whnf); (try dsimp only); (try simp only [Nat.succ_eq_add_one, Nat.le_eq, castL_self]); (try omega))
      all_goals (try (first | omega | (simp only [lens] <;> omega)))
    all_goals first
      | (rw [h0]; done)
      | (rw [h0]; rfl)
      | rfl
      | trace_state
end
end Go.Proofs.Ytlkbmjdgfbciaaa
end

section
namespace Go.Proofs.Ytlkbmjdgfbciaaa
open Go.Sym
set_option linter.unusedVariables false
set_option linter.unusedSimpArgs false
set_option maxRecDepth 100000
set_option maxHeartbeats 4000000

abbrev logE : List Ty := [.int .u64, .int .u64, .lst entE]
abbrev LogR := Int × Int × List EnR
noncomputable def termP (i0 t0 : Int) (L : List EnR) (i : Int) : Int × Bool := if i = i0 then (t0, true) else if i < i0 ∨ (L.length : Int) < i - i0 then (0, false) else ((rowE L (i - i0 - 1).toNat).1, true)
noncomputable def termV : Int → Int → List EnR → Int → Int := hide fun i0 t0 L i => (termP i0 t0 L i).1
noncomputable def termI : Int → Int → List EnR → Int → Bool := hide fun i0 t0 L i => (termP i0 t0 L i).2
theorem termV_eq (i0 t0 : Int) (L : List EnR) (i : Int) : termV i0 t0 L i = (termP i0 t0 L i).1 := by unfold termV; rw [hide_eq]
theorem termI_eq (i0 t0 : Int) (L : List EnR) (i : Int) : termI i0 t0 L i = (termP i0 t0 L i).2 := by unfold termI; rw [hide_eq]
theorem termP_0 (i0 t0 : Int) (L : List EnR) : termP i0 t0 L i0 = (t0, true) := if_pos rfl
theorem termP_no {i0 t0 : Int} {L : List EnR} {i : Int} (h : i < i0 ∨ (L.length : Int) < i - i0) (h0 : i ≠ i0) : termP i0 t0 L i = (0, false) := by unfold termP; rw [if_neg h0, if_pos h]
theorem termP_at {i0 t0 : Int} {L : List EnR} {i : Int} (h : i0 < i) (h2 : i - i0 ≤ L.length) : termP i0 t0 L i = ((rowE L (i - i0 - 1).toNat).1, true) := by unfold termP; rw [if_neg (by omega), if_neg (by omega)]
theorem term_at (i0 t0 : Int) (L : List EnR) (i : Int) (hi : 0 ≤ i ∧ i < 18446744073709551616) (h0 : 0 ≤ i0 ∧ i0 < 18446744073709551616) (hL : L.length ≤ 9223372036854775807) :
    PureAt Try.prog 25 [.lptr logE [(i0, t0, L)] 0 0, .int .u64 i] (.tup [.int .u64 (termV i0 t0 L i), .bool (termI i0 t0 L i)]) := by
  rw [termV_eq, termI_eq]
  have r1 : @Eq Int (Sym.rowAt logE [(i0, t0, L)] 0).1 i0 := rfl
  have r3 : List.length (α := rowDen entE) (Sym.rowAt logE [(i0, t0, L)] 0).2.2 = List.length (α := EnR) L := rfl
  by_cases c1 : i = i0
  · subst c1
    rw [termP_0]
    refine pure_of_W0 (tab := noTab) (fuel := 3) (d := 5) noTab_ok ?_
    repeat' (conv => whnf
             first | (with_reducible first | exact True.intro | rfl | exact castL_self _ _ | refine iteB_n ?_ | refine iteB_ct ?_ | refine iteB_cf ?_ | refine iteB_bt ?_ | refine iteB_bf ?_ | refine iteB_tb ?_ | refine iteB_fb ?_) | ((with_reducible refine V.same_t ?_); exact rfl) | ((with_reducible refine andB_room ?_ ?_ ?_); (· kernel_rfl); (· (first | omega | (simp only [lens] <;> omega)))) | ((with_reducible first | refine andB_in ?_ ?_ | refine andB_d ?_ ?_ | refine andB_lt ?_ ?_ | refine andB_le ?_ ?_ | refine iteB_ltt ?_ ?_ | refine iteB_let ?_ ?_ | refine iteB_dt ?_ ?_); · (first | (with_reducible assumption) | (first | omega | (simp only [lens] <;> omega)))) | ((with_reducible first | refine iteB_ltf ?_ ?_ | refine iteB_lef ?_ ?_ | refine iteB_df ?_ ?_); · (first | (with_reducible assumption) | (first | omega | (simp only [lens] <;> omega)))) | ((with_reducible first | refine andB_i ?_ ?_ | refine iteB_t ?_ ?_); · (first | (with_reducible first | assumption | exact decide_eq_true rfl | exact sEq_self _) | ((with_reducible refine eqOK_i ?_); kernel_rfl))) | ((with_reducible refine iteB_f ?_ ?_); · (first | (with_reducible first | assumption | exact decide_eq_true rfl | exact sEq_self _) | ((with_reducible refine eqOK_i ?_); kernel_rfl))) | (with_reducible first | refine andB_in ?_ ?_ | refine andB_lt ?_ ?_ | refine andB_le ?_ ?_ | refine andB_d ?_ ?_ | refine andB_i ?_ ?_ | refine iteB_lts (fun hB => ?_) (fun hB => ?_) | refine iteB_les (fun hB => ?_) (fun hB => ?_) | refine iteB_ds (fun hB => ?_) (fun hB => ?_) | refine iteB_s (fun hB => ?_) (fun hB => ?_) | refine CD.wk_as ?_ | refine And.intro ?_ ?_))
    all_goals ((conv => whnf); (try dsimp only); (try simp only [Nat.succ_eq_add_one, Nat.le_eq, castL_self]); (try omega))
    all_goals (try (first | omega | (simp only [lens] <;> omega)))
    all_goals first
      | rfl
      | trace_state
  · by_cases c2 : i < i0 ∨ (L.length : Int) < i - i0
    · rw [termP_no c2 c1]
      refine pure_of_W0 (tab := noTab) (fuel := 3) (d := 5) noTab_ok ?_
      repeat' (conv => whnf
               first | (with_reducible first | exact True.intro | rfl | exact castL_self _ _ | refine iteB_n ?_ | refine iteB_ct ?_ | refine iteB_cf ?_ | refine iteB_bt ?_ | refine iteB_bf ?_ | refine iteB_tb ?_ | refine iteB_fb ?_) | ((with_reducible refine V.same_t ?_); exact rfl) | ((with_reducible refine andB_room ?_ ?_ ?_); (· kernel_rfl); (· (first | omega | (simp only [lens] <;> omega)))) | ((with_reducible first | refine andB_in ?_ ?_ | refine andB_d ?_ ?_ | refine andB_lt ?_ ?_ | refine andB_le ?_ ?_ | refine iteB_ltt ?_ ?_ | refine iteB_let ?_ ?_ | refine iteB_dt ?_ ?_); · (first | (with_reducible assumption) | (first | omega | (simp only [lens] <;> omega)))) | ((with_reducible first | refine iteB_ltf ?_ ?_ | refine iteB_lef ?_ ?_ | refine iteB_df ?_ ?_); · (first | (with_reducible assumption) | (first | omega | (simp only [lens] <;> omega)))) | ((with_reducible first | refine andB_i ?_ ?_ | refine iteB_t ?_ ?_); · (first | (with_reducible first | assumption | exact decide_eq_true rfl | exact sEq_self _) | ((with_reducible refine eqOK_i ?_); kernel_rfl))) | ((with_reducible refine iteB_f ?_ ?_); · (first | (with_reducible first | assumption | exact decide_eq_true rfl | exact sEq_self _) | ((with_reducible refine eqOK_i ?_); kernel_rfl))) | (with_reducible first | refine andB_in ?_ ?_ | refine andB_lt ?_ ?_ | refine andB_le ?_ ?_ | refine andB_d ?_ ?_ | refine andB_i ?_ ?_ | refine iteB_lts (fun hB => ?_) (fun hB => ?_) | refine iteB_les (fun hB => ?_) (fun hB => ?_) | refine iteB_ds (fun hB => ?_) (fun hB => ?_) | refine iteB_s (fun hB => ?_) (fun hB => ?_) | refine CD.wk_as ?_ | refine And.intro ?_ ?_))
      all_goals ((conv => whnf); (try dsimp only); (try simp only [Nat.succ_eq_add_one, Nat.le_eq, castL_self]); (try omega))
      all_goals (try (first | omega | (simp only [lens] <;> omega)))
      all_goals first
        | rfl
        | trace_state
    · rw [termP_at (by omega) (by omega)]
      have e : Int.toNat (((i - i0) % 18446744073709551616 - 1) % 18446744073709551616) = Int.toNat (i - i0 - 1) := by omega
      rw [← e]
      refine pure_of_W0 (tab := noTab) (fuel := 3) (d := 5) noTab_ok ?_
      repeat' (conv => whnf
               first | (with_reducible first | exact True.intro | rfl | exact castL_self _ _ | refine iteB_n ?_ | refine iteB_ct ?_ | refine iteB_cf ?_ | refine iteB_bt ?_ | refine iteB_bf ?_ | refine iteB_tb ?_ | refine iteB_fb ?_) | ((with_reducible refine V.same_t ?_); exact rfl) | ((with_reducible refine andB_room ?_ ?_ ?_); (· kernel_rfl); (· (first | omega | (simp only [lens] <;> omega)))) | ((with_reducible first | refine andB_in ?_ ?_ | refine andB_d ?_ ?_ | refine andB_lt ?_ ?_ | refine andB_le ?_ ?_ | refine iteB_ltt ?_ ?_ | refine iteB_let ?_ ?_ | refine iteB_dt ?_ ?_); · (first | (with_reducible assumption) | (first | omega | (simp only [lens] <;> omega)))) | ((with_reducible first | refine iteB_ltf ?_ ?_ | refine iteB_lef ?_ ?_ | refine iteB_df ?_ ?_); · (first | (with_reducible assumption) | (first | omega | (simp only [lens] <;> omega)))) | ((with_reducible first | refine andB_i ?_ ?_ | refine iteB_t ?_ ?_); · (first | (with_reducible first | assumption | exact decide_eq_true rfl | exact sEq_self _) | ((with_reducible refine eqOK_i ?_); kernel_rfl))) | ((with_reducible refine iteB_f ?_ ?_); · (first | (with_reducible first | assumption | exact decide_eq_true rfl | exact sEq_self _) | ((with_reducible refine eqOK_i ?_); kernel_rfl))) | (with_reducible first | refine andB_in ?_ ?_ | refine andB_lt ?_ ?_ | refine andB_le ?_ ?_ | refine andB_d ?_ ?_ | refine andB_i ?_ ?_ | refine iteB_lts (fun hB => ?_) (fun hB => ?_) | refine iteB_les (fun hB => ?_) (fun hB => ?_) | refine iteB_ds (fun hB => ?_) (fun hB => ?_) | refine iteB_s (fun hB => ?_) (fun hB => ?_) | refine CD.wk_as ?_ | refine And.intro ?_ ?_))
      all_goals ((conv => whnf); (try dsimp only); (try simp only [Nat.succ_eq_add_one, Nat.le_eq, castL_self]); (try omega))
      all_goals (try (first | omega | (simp only [lens] <;> omega)))
      all_goals first
        | rfl
        | trace_state
end Go.Proofs.Ytlkbmjdgfbciaaa
end

section
namespace Go.Proofs.Ytlkbmjdgfbciaaa
open Go.Sym
set_option linter.unusedVariables false
set_option linter.unusedSimpArgs false
set_option maxRecDepth 100000
set_option maxHeartbeats 4000000

noncomputable def inS (a b : Int) (e : EnR) : Bool := decide (a ≤ e.2.1) && decide (e.2.1 ≤ b)
noncomputable def slF : Int → Int → List EnR → Nat → List EnR := hide fun a b L i => (L.take i).filter (inS a b)
theorem slF_eq (a b : Int) (L : List EnR) (i : Nat) : slF a b L i = (L.take i).filter (inS a b) := by unfold slF; rw [hide_eq]
theorem slF_0 (a b : Int) (L : List EnR) : slF a b L 0 = [] := by rw [slF_eq]; rfl
theorem rowE_is {L : List EnR} {i : Nat} (h : i < L.length) : L[i] = rowE L i := (rowAt_lt (e := entE) (L := L) h).symm
theorem slF_yes {a b : Int} {L : List EnR} {i : Nat} (h : i < L.length) (h1 : a ≤ (rowE L i).2.1) (h2 : (rowE L i).2.1 ≤ b) : slF a b L (i + 1) = slF a b L i ++ [rowE L i] := by
  rw [slF_eq, slF_eq, List.take_succ_eq_append_getElem h, rowE_is h, List.filter_append]
  congr 1
  have : inS a b (rowE L i) = true := by unfold inS; rw [decide_eq_true h1, decide_eq_true h2]; rfl
  simp only [List.filter, this]
theorem slF_no {a b : Int} {L : List EnR} {i : Nat} (h : i < L.length) (h1 : ¬ (a ≤ (rowE L i).2.1 ∧ (rowE L i).2.1 ≤ b)) : slF a b L (i + 1) = slF a b L i := by
  rw [slF_eq, slF_eq, List.take_succ_eq_append_getElem h, rowE_is h, List.filter_append]
  have : inS a b (rowE L i) = false := by
    unfold inS
    rw [← Bool.not_eq_true, Bool.and_eq_true, decide_eq_true_eq, decide_eq_true_eq]
    exact h1
  simp only [List.filter, this, List.append_nil]
theorem slF_len (a b : Int) (L : List EnR) (i : Nat) : (slF a b L i).length ≤ L.length := by
  rw [slF_eq]
  have h1 := List.length_filter_le (inS a b) (L.take i)
  rw [List.length_take] at h1
  omega
theorem slF_len2 (a b : Int) (L : List EnR) (i : Nat) : (slF a b L i).length ≤ i := by
  rw [slF_eq]
  have h1 := List.length_filter_le (inS a b) (L.take i)
  rw [List.length_take] at h1
  omega
section
variable (i0 t0 : Int) (L : List EnR) (a b : Int)
noncomputable def slC (i : Nat) : CD := ⟨37, [(1, .int .u64 a), (2, .int .u64 b), (7, .rs 0 0 (slF a b L i).length (slF a b L i).length false 3), (15, .lst entE L false), (16, .int .i64 ((List.length (α := EnR) L : Nat) : Int)), (17, .int .i64 (i : Int))], [], [(0, .rows entE (slF a b L i) 0 false)], 1⟩
theorem slice_at (hL : L.length ≤ 1000000) : PureAt Try.prog 31 [.lptr logE [(i0, t0, L)] 0 0, .int .u64 a, .int .u64 b] (.lst entE (slF a b L L.length) false) := by
  refine pure_of_loop noTab_ok (fuel := 3) (d := 3) 5 (X := { i : Nat // i ≤ L.length }) (fun x => slC L a b x.1) (fun x => L.length - x.1) (fun _ => .leaf (.exit 0) (slC L a b L.length)) ⟨0, Nat.zero_le _⟩ [] rfl ?_ ?_
  · rintro ⟨i, hi⟩
    dsimp only
    have hl := slF_len a b L i
    have hl2 := slF_len2 a b L i
    rcases Nat.lt_or_ge i L.length with hlt | hge
    · by_cases hc : @LE.le Int _ a (Sym.rowAt entE L (Int.toNat (i : Int))).2.1 ∧ @LE.le Int _ (Sym.rowAt entE L (Int.toNat (i : Int))).2.1 b
      · have hs := slF_yes hlt hc.1 hc.2
        have hs2 : (slF a b L (i + 1)).length = (slF a b L i).length + 1 := by rw [hs, List.length_append]; rfl
        repeat' (conv => whnf
                 first | (with_reducible first | exact True.intro | rfl | exact castL_self _ _ | refine iteB_n ?_ | refine iteB_ct ?_ | refine iteB_cf ?_ | refine iteB_bt ?_ | refine iteB_bf ?_ | refine iteB_tb ?_ | refine iteB_fb ?_) | ((with_reducible refine V.same_t ?_); exact rfl) | ((with_reducible refine andB_room ?_ ?_ ?_); (· kernel_rfl); (· (first | omega | (simp only [lens] <;> omega)))) | ((with_reducible first | refine andB_in ?_ ?_ | refine andB_d ?_ ?_ | refine andB_lt ?_ ?_ | refine andB_le ?_ ?_ | refine iteB_ltt ?_ ?_ | refine iteB_let ?_ ?_ | refine iteB_dt ?_ ?_); · (first | (with_reducible assumption) | (first | omega | (simp only [lens] <;> omega)))) | ((with_reducible first | refine iteB_ltf ?_ ?_ | refine iteB_lef ?_ ?_ | refine iteB_df ?_ ?_); · (first | (with_reducible assumption) | (first | omega | (simp only [lens] <;> omega)))) | ((with_reducible first | refine andB_i ?_ ?_ | refine iteB_t ?_ ?_); · (first | (with_reducible first | assumption | exact decide_eq_true rfl | exact sEq_self _) | ((with_reducible refine eqOK_i ?_); kernel_rfl))) | ((with_reducible refine iteB_f ?_ ?_); · (first | (with_reducible first | assumption | exact decide_eq_true rfl | exact sEq_self _) | ((with_reducible refine eqOK_i ?_); kernel_rfl))) | (refine ⟨⟨i + 1, hlt⟩, ?_, rfl, ?_⟩) | (with_reducible refine CD.wk_au ?_) | (with_reducible first | refine andB_in ?_ ?_ | refine andB_lt ?_ ?_ | refine andB_le ?_ ?_ | refine andB_d ?_ ?_ | refine andB_i ?_ ?_ | refine iteB_lts (fun hB => ?_) (fun hB => ?_) | refine iteB_les (fun hB => ?_) (fun hB => ?_) | refine iteB_ds (fun hB => ?_) (fun hB => ?_) | refine iteB_s (fun hB => ?_) (fun hB => ?_) | refine CD.wk_as ?_ | refine And.intro ?_ ?_))
        all_goals ((conv => whnf); (try dsimp only); (try simp only [Nat.succ_eq_add_one, Nat.le_eq, castL_self]); (try omega))
        all_goals (try (first | omega | (simp only [lens] <;> omega)))
        all_goals first
          | omega
          | (rw [hs, seg_all _ rfl]; rfl)
          | trace_state
      · have hs := slF_no hlt hc
        have hs2 : (slF a b L (i + 1)).length = (slF a b L i).length := by rw [hs]
        repeat' (conv => whnf
                 first | (with_reducible first | exact True.intro | rfl | exact castL_self _ _ | refine iteB_n ?_ | refine iteB_ct ?_ | refine iteB_cf ?_ | refine iteB_bt ?_ | refine iteB_bf ?_ | refine iteB_tb ?_ | refine iteB_fb ?_) | ((with_reducible refine V.same_t ?_); exact rfl) | ((with_reducible refine andB_room ?_ ?_ ?_); (· kernel_rfl); (· (first | omega | (simp only [lens] <;> omega)))) | ((with_reducible first | refine andB_in ?_ ?_ | refine andB_d ?_ ?_ | refine andB_lt ?_ ?_ | refine andB_le ?_ ?_ | refine iteB_ltt ?_ ?_ | refine iteB_let ?_ ?_ | refine iteB_dt ?_ ?_); · (first | (with_reducible assumption) | (first | omega | (simp only [lens] <;> omega)))) | ((with_reducible first | refine iteB_ltf ?_ ?_ | refine iteB_lef ?_ ?_ | refine iteB_df ?_ ?_); · (first | (with_reducible assumption) | (first | omega | (simp only [lens] <;> omega)))) | ((with_reducible first | refine andB_i ?_ ?_ | refine iteB_t ?_ ?_); · (first | (with_reducible first | assumption | exact decide_eq_true rfl | exact sEq_self _) | ((with_reducible refine eqOK_i ?_); kernel_rfl))) | ((with_reducible refine iteB_f ?_ ?_); · (first | (with_reducible first | assumption | exact decide_eq_true rfl | exact sEq_self _) | ((with_reducible refine eqOK_i ?_); kernel_rfl))) | (refine ⟨⟨i + 1, hlt⟩, ?_, rfl, ?_⟩) | (with_reducible refine CD.wk_au ?_) | (with_reducible first | refine andB_in ?_ ?_ | refine andB_lt ?_ ?_ | refine andB_le ?_ ?_ | refine andB_d ?_ ?_ | refine andB_i ?_ ?_ | refine iteB_lts (fun hB => ?_) (fun hB => ?_) | refine iteB_les (fun hB => ?_) (fun hB => ?_) | refine iteB_ds (fun hB => ?_) (fun hB => ?_) | refine iteB_s (fun hB => ?_) (fun hB => ?_) | refine CD.wk_as ?_ | refine And.intro ?_ ?_))
        all_goals ((conv => whnf); (try dsimp only); (try simp only [Nat.succ_eq_add_one, Nat.le_eq, castL_self]); (try omega))
        all_goals (try (first | omega | (simp only [lens] <;> omega)))
        all_goals first
          | omega
          | exact hs.symm
          | trace_state
    · have he : i = L.length := Nat.le_antisymm hi hge
      subst he
      repeat' (conv => whnf
               first | (with_reducible first | exact True.intro | rfl | exact castL_self _ _ | refine iteB_n ?_ | refine iteB_ct ?_ | refine iteB_cf ?_ | refine iteB_bt ?_ | refine iteB_bf ?_ | refine iteB_tb ?_ | refine iteB_fb ?_) | ((with_reducible refine V.same_t ?_); exact rfl) | ((with_reducible refine andB_room ?_ ?_ ?_); (· kernel_rfl); (· (first | omega | (simp only [lens] <;> omega)))) | ((with_reducible first | refine andB_in ?_ ?_ | refine andB_d ?_ ?_ | refine andB_lt ?_ ?_ | refine andB_le ?_ ?_ | refine iteB_ltt ?_ ?_ | refine iteB_let ?_ ?_ | refine iteB_dt ?_ ?_); · (first | (with_reducible assumption) | (first | omega | (simp only [lens] <;> omega)))) | ((with_reducible first | refine iteB_ltf ?_ ?_ | refine iteB_lef ?_ ?_ | refine iteB_df ?_ ?_); · (first | (with_reducible assumption) | (first | omega | (simp only [lens] <;> omega)))) | ((with_reducible first | refine andB_i ?_ ?_ | refine iteB_t ?_ ?_); · (first | (with_reducible first | assumption | exact decide_eq_true rfl | exact sEq_self _) | ((with_reducible refine eqOK_i ?_); kernel_rfl))) | ((with_reducible refine iteB_f ?_ ?_); · (first | (with_reducible first | assumption | exact decide_eq_true rfl | exact sEq_self _) | ((with_reducible refine eqOK_i ?_); kernel_rfl))) | (with_reducible refine CD.wk_au ?_) | (with_reducible first | refine andB_in ?_ ?_ | refine andB_lt ?_ ?_ | refine andB_le ?_ ?_ | refine andB_d ?_ ?_ | refine andB_i ?_ ?_ | refine iteB_lts (fun hB => ?_) (fun hB => ?_) | refine iteB_les (fun hB => ?_) (fun hB => ?_) | refine iteB_ds (fun hB => ?_) (fun hB => ?_) | refine iteB_s (fun hB => ?_) (fun hB => ?_) | refine CD.wk_as ?_ | refine And.intro ?_ ?_))
      all_goals ((conv => whnf); (try dsimp only); (try simp only [Nat.succ_eq_add_one, Nat.le_eq, castL_self]); (try omega))
      all_goals (try (first | omega | (simp only [lens] <;> omega)))
      all_goals trace_state
  · have h0 := slF_0 a b L
    have h1 : (slF a b L 0).length = 0 := by rw [h0]; rfl
    have r3 : List.length (α := rowDen entE) (Sym.rowAt logE [(i0, t0, L)] 0).2.2 = List.length (α := EnR) L := rfl
    repeat' (conv => whnf
             first | (with_reducible first | exact True.intro | rfl | exact castL_self _ _ | refine iteB_n ?_ | refine iteB_ct ?_ | refine iteB_cf ?_ | refine iteB_bt ?_ | refine iteB_bf ?_ | refine iteB_tb ?_ | refine iteB_fb ?_) | ((with_reducible refine V.same_t ?_); exact rfl) | ((with_reducible refine andB_room ?_ ?_ ?_); (· kernel_rfl); (· (first | omega | (simp only [lens] <;> omega)))) | ((with_reducible first | refine andB_in ?_ ?_ | refine andB_d ?_ ?_ | refine andB_lt ?_ ?_ | refine andB_le ?_ ?_ | refine iteB_ltt ?_ ?_ | refine iteB_let ?_ ?_ | refine iteB_dt ?_ ?_); · (first | (with_reducible assumption) | (first | omega | (simp only [lens] <;> omega)))) | ((with_reducible first | refine iteB_ltf ?_ ?_ | refine iteB_lef ?_ ?_ | refine iteB_df ?_ ?_); · (first | (with_reducible assumption) | (first | omega | (simp only [lens] <;> omega)))) | ((with_reducible first | refine andB_i ?_ ?_ | refine iteB_t ?_ ?_); · (first | (with_reducible first | assumption | exact decide_eq_true rfl | exact sEq_self _) | ((with_reducible refine eqOK_i ?_); kernel_rfl))) | ((with_reducible refine iteB_f ?_ ?_); · (first | (with_reducible first | assumption | exact decide_eq_true rfl | exact sEq_self _) | ((with_reducible refine eqOK_i ?_); kernel_rfl))) | (with_reducible refine CD.wk_au ?_) | (with_reducible first | refine andB_in ?_ ?_ | refine andB_lt ?_ ?_ | refine andB_le ?_ ?_ | refine andB_d ?_ ?_ | refine andB_i ?_ ?_ | refine iteB_lts (fun hB => ?_) (fun hB => ?_) | refine iteB_les (fun hB => ?_) (fun hB => ?_) | refine iteB_ds (fun hB => ?_) (fun hB => ?_) | refine iteB_s (fun hB => ?_) (fun hB => ?_) | refine CD.wk_as ?_ | refine And.intro ?_ ?_))
    all_goals ((conv => whnf); (try dsimp only); (try simp only [Nat.succ_eq_add_one, Nat.le_eq, castL_self]); (try omega))
    all_goals (try (first | omega | (simp only [lens] <;> omega)))
    all_goals first
      | omega
      | rfl
      | exact congrArg (fun l => V.lst entE l false) (seg_all (slF a b L L.length) rfl)
      | trace_state
end
noncomputable def eqE' : List EnR → List EnR → Bool := hide fun a b => decide (a = b)
theorem eqE_eq (a b : List EnR) : eqE' a b = decide (a = b) := by unfold eqE'; rw [hide_eq]
theorem eqE_of {a b : List EnR} (h : eqE' a b = true) : a = b := of_decide_eq_true ((eqE_eq a b).symm.trans h)
theorem eqE_self (a : List EnR) : eqE' a a = true := by rw [eqE_eq]; exact decide_eq_true rfl
section
variable (L : List EnR)
noncomputable def smC (i : Nat) : CD := ⟨26, [(0, .lst entE L false), (1, .lst entE L false), (5, .int .i64 (i : Int))], [], [], 0⟩
noncomputable def smE : CD := ⟨26, [], [], [], 0⟩
theorem same_at (hL : L.length ≤ 9223372036854775807) : PureAt Try.prog 30 [.lst entE L false, .lst entE L false] (.bool true) := by
  refine pure_of_loop noTab_ok (fuel := 3) (d := 3) 4 (X := { k : Nat // k ≤ L.length }) (fun x => smC L x.1) (fun x => L.length - x.1) (fun _ => .leaf (.exit 0) smE) ⟨0, Nat.zero_le _⟩ [] rfl ?_ ?_
  · rintro ⟨i, hi⟩
    dsimp only
    have hh := sEq_self (Sym.rowAt entE L (Int.toNat (i : Int))).2.2
    repeat' (conv => whnf
             first | (with_reducible first | exact True.intro | rfl | exact castL_self _ _ | refine iteB_n ?_ | refine iteB_ct ?_ | refine iteB_cf ?_ | refine iteB_bt ?_ | refine iteB_bf ?_ | refine iteB_tb ?_ | refine iteB_fb ?_) | ((with_reducible refine V.same_t ?_); exact rfl) | ((with_reducible refine andB_room ?_ ?_ ?_); (· kernel_rfl); (· (first | omega | (simp only [lens] <;> omega)))) | ((with_reducible first | refine andB_in ?_ ?_ | refine andB_d ?_ ?_ | refine andB_lt ?_ ?_ | refine andB_le ?_ ?_ | refine iteB_ltt ?_ ?_ | refine iteB_let ?_ ?_ | refine iteB_dt ?_ ?_); · (first | (with_reducible assumption) | (first | omega | (simp only [lens] <;> omega)))) | ((with_reducible first | refine iteB_ltf ?_ ?_ | refine iteB_lef ?_ ?_ | refine iteB_df ?_ ?_); · (first | (with_reducible assumption) | (first | omega | (simp only [lens] <;> omega)))) | ((with_reducible first | refine andB_i ?_ ?_ | refine iteB_t ?_ ?_); · (first | (with_reducible first | assumption | exact decide_eq_true rfl | exact sEq_self _) | ((with_reducible refine eqOK_i ?_); kernel_rfl))) | ((with_reducible refine iteB_f ?_ ?_); · (first | (with_reducible first | assumption | exact decide_eq_true rfl | exact sEq_self _) | ((with_reducible refine eqOK_i ?_); kernel_rfl))) | (refine ⟨⟨i + 1, ?_⟩, ?_, rfl, ?_⟩) | (with_reducible refine CD.wk_au ?_) | (with_reducible first | refine andB_in ?_ ?_ | refine andB_lt ?_ ?_ | refine andB_le ?_ ?_ | refine andB_d ?_ ?_ | refine andB_i ?_ ?_ | refine iteB_lts (fun hB => ?_) (fun hB => ?_) | refine iteB_les (fun hB => ?_) (fun hB => ?_) | refine iteB_ds (fun hB => ?_) (fun hB => ?_) | refine iteB_s (fun hB => ?_) (fun hB => ?_) | refine CD.wk_as ?_ | refine And.intro ?_ ?_))
    all_goals ((conv => whnf); (try dsimp only); (try simp only [Nat.succ_eq_add_one, Nat.le_eq, castL_self]); (try omega))
    all_goals (try (first | omega | (simp only [lens] <;> omega)))
    all_goals first
      | omega
      | (exact Bool.noConfusion (hh.symm.trans ‹_›))
      | (exfalso; rw [hh, decide_eq_true rfl, decide_eq_true rfl] at hB; cases hB)
      | (exfalso; simp [hh] at hB)
      | trace_state
  · repeat' (conv => whnf
             first | (with_reducible first | exact True.intro | rfl | exact castL_self _ _ | refine iteB_n ?_ | refine iteB_ct ?_ | refine iteB_cf ?_ | refine iteB_bt ?_ | refine iteB_bf ?_ | refine iteB_tb ?_ | refine iteB_fb ?_) | ((with_reducible refine V.same_t ?_); exact rfl) | ((with_reducible refine andB_room ?_ ?_ ?_); (· kernel_rfl); (· (first | omega | (simp only [lens] <;> omega)))) | ((with_reducible first | refine andB_in ?_ ?_ | refine andB_d ?_ ?_ | refine andB_lt ?_ ?_ | refine andB_le ?_ ?_ | refine iteB_ltt ?_ ?_ | refine iteB_let ?_ ?_ | refine iteB_dt ?_ ?_); · (first | (with_reducible assumption) | (first | omega | (simp only [lens] <;> omega)))) | ((with_reducible first | refine iteB_ltf ?_ ?_ | refine iteB_lef ?_ ?_ | refine iteB_df ?_ ?_); · (first | (with_reducible assumption) | (first | omega | (simp only [lens] <;> omega)))) | ((with_reducible first | refine andB_i ?_ ?_ | refine iteB_t ?_ ?_); · (first | (with_reducible first | assumption | exact decide_eq_true rfl | exact sEq_self _) | ((with_reducible refine eqOK_i ?_); kernel_rfl))) | ((with_reducible refine iteB_f ?_ ?_); · (first | (with_reducible first | assumption | exact decide_eq_true rfl | exact sEq_self _) | ((with_reducible refine eqOK_i ?_); kernel_rfl))) | (with_reducible first | refine andB_in ?_ ?_ | refine andB_lt ?_ ?_ | refine andB_le ?_ ?_ | refine andB_d ?_ ?_ | refine andB_i ?_ ?_ | refine iteB_lts (fun hB => ?_) (fun hB => ?_) | refine iteB_les (fun hB => ?_) (fun hB => ?_) | refine iteB_ds (fun hB => ?_) (fun hB => ?_) | refine iteB_s (fun hB => ?_) (fun hB => ?_) | refine CD.wk_as ?_ | refine And.intro ?_ ?_))
    all_goals ((conv => whnf); (try dsimp only); (try simp only [Nat.succ_eq_add_one, Nat.le_eq, castL_self]); (try omega))
    all_goals (try (first | omega | (simp only [lens] <;> omega)))
    all_goals first
      | rfl
      | trace_state
noncomputable def sameF (args : List V) : Option (List Bool × V) := match args with
  | [a, b] => (match ofLst entE a, ofLst entE b with
    | some L, some M => some ([eqE' L M, decide (List.length (α := EnR) L ≤ 9223372036854775807)], .bool true)
    | _, _ => none)
  | _ => none
theorem sameF_ok (args : List V) (c : List Bool) (v : V) (h : sameF args = some (c, v)) (hc : allB c) : PureAt Try.prog 30 args v := by
  unfold sameF at h
  split at h
  · rename_i a b
    split at h
    · rename_i L M hL hM
      cases h
      have h1 : L = M := eqE_of hc.1
      subst h1
      exact PureAt.lst (pre := [a]) ((same_at L (@of_decide_eq_true (List.length (α := EnR) L ≤ 9223372036854775807) _ hc.2.1)).lst0 hL) hM
    · cases h
  · cases h
end
end Go.Proofs.Ytlkbmjdgfbciaaa
end

section
namespace Go.Proofs.Ytlkbmjdgfbciaaa
open Go.Sym
set_option linter.unusedVariables false
set_option linter.unusedSimpArgs false
set_option maxRecDepth 100000
set_option maxHeartbeats 4000000

noncomputable def oneLog (a : V) : Option LogR := match a with
  | .lptr e L 0 0 => (match asL logE e L with
    | some M => (match (M : List LogR) with
      | [x] => some x
      | _ => none)
    | none => none)
  | _ => none
theorem oneLog_eq {a : V} {x : LogR} (h : oneLog a = some x) : a = .lptr logE [x] 0 0 := by
  unfold oneLog at h
  split at h
  · rename_i e L
    split at h
    · rename_i M hM
      split at h
      · rename_i y
        cases h
        obtain ⟨q, e1⟩ := asL_eq hM
        subst q
        have e1 : L = [x] := e1.symm
        rw [e1]
      · cases h
    · cases h
  · cases h
noncomputable def termF (args : List V) : Option (List Bool × V) := match args with
  | [a, .int .u64 i] => (match oneLog a with
    | some (i0, t0, L) => some ([leI 0 i, ltI i 18446744073709551616, leI 0 i0, ltI i0 18446744073709551616, decide (List.length (α := EnR) L ≤ 9223372036854775807)], .tup [.int .u64 (termV i0 t0 L i), .bool (termI i0 t0 L i)])
    | none => none)
  | _ => none
theorem termF_ok (args : List V) (c : List Bool) (v : V) (h : termF args = some (c, v)) (hc : allB c) : PureAt Try.prog 25 args v := by
  unfold termF at h
  split at h
  · rename_i a i
    split at h
    · rename_i i0 t0 L hx
      cases h
      obtain rfl := oneLog_eq hx
      obtain ⟨c1, c2, c3, c4, c5, _⟩ := hc
      rw [leI_eq] at c1 c3
      rw [ltI_eq] at c2 c4
      exact term_at i0 t0 L i ⟨of_decide_eq_true c1, of_decide_eq_true c2⟩ ⟨of_decide_eq_true c3, of_decide_eq_true c4⟩ (of_decide_eq_true c5)
    · cases h
  · cases h
noncomputable def followF (args : List V) : Option (List Bool × V) := match args with
  | [.int .u64 i, .int .u64 t, b] => (match ofLst entE b with
    | some L => some ([decide (List.length (α := EnR) L ≤ 9223372036854775807)], .bool (folL i t L))
    | none => none)
  | _ => none
theorem followF_ok (args : List V) (c : List Bool) (v : V) (h : followF args = some (c, v)) (hc : allB c) : PureAt Try.prog 49 args v := by
  unfold followF at h
  split at h
  · rename_i i t b
    split at h
    · rename_i L hL
      cases h
      exact PureAt.lst (pre := [.int .u64 i, .int .u64 t]) (rest := []) (follow_at i t L (@of_decide_eq_true (List.length (α := EnR) L ≤ 9223372036854775807) _ hc.1)) hL
    · cases h
  · cases h
theorem reffollowF_ok (args : List V) (c : List Bool) (v : V) (h : followF args = some (c, v)) (hc : allB c) : PureAt Try.prog 52 args v := by
  unfold followF at h
  split at h
  · rename_i i t b
    split at h
    · rename_i L hL
      cases h
      exact PureAt.lst (pre := [.int .u64 i, .int .u64 t]) (rest := []) (reffollow_at i t L (@of_decide_eq_true (List.length (α := EnR) L ≤ 9223372036854775807) _ hc.1)) hL
    · cases h
  · cases h
noncomputable def sliceF (args : List V) : Option (List Bool × V) := match args with
  | [a, .int .u64 i, .int .u64 j] => (match oneLog a with
    | some (i0, t0, L) => some ([decide (List.length (α := EnR) L ≤ 1000000)], .lst entE (slF i j L (List.length (α := EnR) L)) false)
    | none => none)
  | _ => none
theorem sliceF_ok (args : List V) (c : List Bool) (v : V) (h : sliceF args = some (c, v)) (hc : allB c) : PureAt Try.prog 31 args v := by
  unfold sliceF at h
  split at h
  · rename_i a i j
    split at h
    · rename_i i0 t0 L hx
      cases h
      obtain rfl := oneLog_eq hx
      exact slice_at i0 t0 L i j (of_decide_eq_true hc.1)
    · cases h
  · cases h
noncomputable def tabR1 : Tab := oneTab 49 followF (oneTab 52 followF (oneTab 25 termF (oneTab 31 sliceF (oneTab 30 sameF noTab))))
theorem tabR1_ok : TabOK Try.prog tabR1 := oneTab_ok followF_ok (oneTab_ok reffollowF_ok (oneTab_ok termF_ok (oneTab_ok sliceF_ok (oneTab_ok sameF_ok noTab_ok))))

noncomputable def ldT0 (l : List Int) : Nat → Int
  | 0 => 2
  | i + 1 => if (Sym.rowAt [.int .u8] l i : Int) % 4 = 0 then ldT0 l i + 2 else ldT0 l i
noncomputable def ldT : List Int → Nat → Int := hide ldT0
theorem ldT_0 (l : List Int) : ldT l 0 = 2 := by unfold ldT; rw [hide_eq]; rfl
theorem ldT_succ (l : List Int) (i : Nat) : ldT l (i + 1) = if (Sym.rowAt [.int .u8] l i : Int) % 4 = 0 then ldT l i + 2 else ldT l i := by unfold ldT; rw [hide_eq]; rfl
theorem ldT_in (l : List Int) : ∀ i, 2 ≤ ldT l i ∧ ldT l i ≤ 2 + 2 * i ∧ ldT l i % 2 = 0
  | 0 => by rw [ldT_0]; omega
  | i + 1 => by
    have := ldT_in l i
    rw [ldT_succ]
    split <;> omega
noncomputable def ldE (l : List Int) (i : Nat) : EnR := (ldT l (i + 1), (i : Int) + 1, strOf [(Sym.rowAt [.int .u8] l i : Int)])
noncomputable def ldL : List Int → Nat → List EnR := hide fun l i => (List.range i).map (ldE l)
theorem ldL_eq (l : List Int) (i : Nat) : ldL l i = (List.range i).map (ldE l) := by unfold ldL; rw [hide_eq]
theorem ldL_0 (l : List Int) : ldL l 0 = [] := by rw [ldL_eq]; rfl
theorem ldL_len (l : List Int) (i : Nat) : (ldL l i).length = i := by rw [ldL_eq]; simp
theorem ldL_succ (l : List Int) (i : Nat) : ldL l (i + 1) = ldL l i ++ [ldE l i] := by rw [ldL_eq, ldL_eq, List.range_succ, List.map_append]; rfl
theorem ldL_get (l : List Int) (n i : Nat) (h : i < n) : rowE (ldL l n) i = ldE l i := by
  have h' : i < (ldL l n).length := by rw [ldL_len]; exact h
  rw [← rowE_is h']
  have : ∀ (M : List EnR) (e : M = (List.range n).map (ldE l)) (hi : i < M.length), M[i] = ldE l i := fun M e hi => by subst e; rw [List.getElem_map, List.getElem_range]
  exact this _ (ldL_eq l n) h'
section
variable (l : List Int)
noncomputable def lqC (i : Nat) : CD := ⟨39, [(0, .lst [.int .u8] l false), (3, .rs 0 0 i i false 3), (4, .int .u64 (ldT l i)), (5, .int .i64 (i : Int))], [], [(0, .rows entE (ldL l i) 0 false)], 1⟩
theorem leader_at (hl : l.length ≤ 9223372036854775807) (hw : ∀ i, i < l.length → @LE.le Int _ 0 (Sym.rowAt [.int .u8] l i) ∧ @LT.lt Int _ (Sym.rowAt [.int .u8] l i) 256) : PureAt Try.prog 22 [.lst [.int .u8] l false] (.lst entE (ldL l (min l.length 40)) false) := by
  refine pure_of_loop noTab_ok (fuel := 3) (d := 3) 4 (X := { i : Nat // i ≤ min l.length 40 }) (fun x => lqC l x.1) (fun x => min l.length 40 - x.1) (fun _ => .leaf (.exit 0) (lqC l (min l.length 40))) ⟨0, Nat.zero_le _⟩ [] rfl ?_ ?_
  · rintro ⟨i, hi⟩
    dsimp only
    have hlen := ldL_len l i
    have ht := ldT_in l i
    rcases Nat.lt_or_ge i (min l.length 40) with hlt | hge
    · have hs := ldL_succ l i
      have hts := ldT_succ l i
      have hww := hw i (by omega)
      have hx : @Eq Int (((i : Int) % 18446744073709551616 + 1) % 18446744073709551616) ((i : Int) + 1) := by omega
      obtain ⟨w, ew⟩ : ∃ w : Int, @Eq Int w (Sym.rowAt [.int .u8] l (Int.toNat (i : Int))) := ⟨_, rfl⟩
      have ew0 : @Eq Int (Sym.rowAt [.int .u8] l i) w := ew.symm
      have hw1 : 0 ≤ w ∧ w < 256 := by rw [← ew0]; exact hww
      by_cases hc : w % 4 = 0
      · have ht2 : ldT l (i + 1) = ldT l i + 2 := by rw [hts, ew0]; exact if_pos hc
        have hx2 : @Eq Int ((ldT l i + 2) % 18446744073709551616) (ldT l (i + 1)) := by omega
        repeat' (conv => whnf
                 first | (with_reducible first | exact True.intro | rfl | exact castL_self _ _ | refine iteB_n ?_ | refine iteB_ct ?_ | refine iteB_cf ?_ | refine iteB_bt ?_ | refine iteB_bf ?_ | refine iteB_tb ?_ | refine iteB_fb ?_) | ((with_reducible refine V.same_t ?_); exact rfl) | ((with_reducible refine andB_room ?_ ?_ ?_); (· kernel_rfl); (· (first | omega | (simp only [lens] <;> omega)))) | ((with_reducible first | refine andB_in ?_ ?_ | refine andB_d ?_ ?_ | refine andB_lt ?_ ?_ | refine andB_le ?_ ?_ | refine iteB_ltt ?_ ?_ | refine iteB_let ?_ ?_ | refine iteB_dt ?_ ?_); · (first | (with_reducible assumption) | (first | omega | (simp only [lens] <;> omega)))) | ((with_reducible first | refine iteB_ltf ?_ ?_ | refine iteB_lef ?_ ?_ | refine iteB_df ?_ ?_); · (first | (with_reducible assumption) | (first | omega | (simp only [lens] <;> omega)))) | ((with_reducible first | refine andB_i ?_ ?_ | refine iteB_t ?_ ?_); · (first | (with_reducible first | assumption | exact decide_eq_true rfl | exact sEq_self _) | ((with_reducible refine eqOK_i ?_); kernel_rfl))) | ((with_reducible refine iteB_f ?_ ?_); · (first | (with_reducible first | assumption | exact decide_eq_true rfl | exact sEq_self _) | ((with_reducible refine eqOK_i ?_); kernel_rfl))) | (refine ⟨⟨i + 1, hlt⟩, ?_, rfl, ?_⟩) | (with_reducible refine CD.wk_au ?_) | (with_reducible first | refine andB_in ?_ ?_ | refine andB_lt ?_ ?_ | refine andB_le ?_ ?_ | refine andB_d ?_ ?_ | refine andB_i ?_ ?_ | refine iteB_lts (fun hB => ?_) (fun hB => ?_) | refine iteB_les (fun hB => ?_) (fun hB => ?_) | refine iteB_ds (fun hB => ?_) (fun hB => ?_) | refine iteB_s (fun hB => ?_) (fun hB => ?_) | refine CD.wk_as ?_ | refine And.intro ?_ ?_))
        all_goals ((conv => whnf); (try dsimp only); (try simp only [Nat.succ_eq_add_one, Nat.le_eq, castL_self]); (try omega))
        all_goals (try (first | omega | (simp only [lens] <;> omega)))
        all_goals first
          | omega
          | (rw [hs, seg_all _ hlen, hx, hx2]; rfl)
          | trace_state
      · have ht2 : ldT l (i + 1) = ldT l i := by rw [hts, ew0]; exact if_neg hc
        repeat' (conv => whnf
                 first | (with_reducible first | exact True.intro | rfl | exact castL_self _ _ | refine iteB_n ?_ | refine iteB_ct ?_ | refine iteB_cf ?_ | refine iteB_bt ?_ | refine iteB_bf ?_ | refine iteB_tb ?_ | refine iteB_fb ?_) | ((with_reducible refine V.same_t ?_); exact rfl) | ((with_reducible refine andB_room ?_ ?_ ?_); (· kernel_rfl); (· (first | omega | (simp only [lens] <;> omega)))) | ((with_reducible first | refine andB_in ?_ ?_ | refine andB_d ?_ ?_ | refine andB_lt ?_ ?_ | refine andB_le ?_ ?_ | refine iteB_ltt ?_ ?_ | refine iteB_let ?_ ?_ | refine iteB_dt ?_ ?_); · (first | (with_reducible assumption) | (first | omega | (simp only [lens] <;> omega)))) | ((with_reducible first | refine iteB_ltf ?_ ?_ | refine iteB_lef ?_ ?_ | refine iteB_df ?_ ?_); · (first | (with_reducible assumption) | (first | omega | (simp only [lens] <;> omega)))) | ((with_reducible first | refine andB_i ?_ ?_ | refine iteB_t ?_ ?_); · (first | (with_reducible first | assumption | exact decide_eq_true rfl | exact sEq_self _) | ((with_reducible refine eqOK_i ?_); kernel_rfl))) | ((with_reducible refine iteB_f ?_ ?_); · (first | (with_reducible first | assumption | exact decide_eq_true rfl | exact sEq_self _) | ((with_reducible refine eqOK_i ?_); kernel_rfl))) | (refine ⟨⟨i + 1, hlt⟩, ?_, rfl, ?_⟩) | (with_reducible refine CD.wk_au ?_) | (with_reducible first | refine andB_in ?_ ?_ | refine andB_lt ?_ ?_ | refine andB_le ?_ ?_ | refine andB_d ?_ ?_ | refine andB_i ?_ ?_ | refine iteB_lts (fun hB => ?_) (fun hB => ?_) | refine iteB_les (fun hB => ?_) (fun hB => ?_) | refine iteB_ds (fun hB => ?_) (fun hB => ?_) | refine iteB_s (fun hB => ?_) (fun hB => ?_) | refine CD.wk_as ?_ | refine And.intro ?_ ?_))
        all_goals ((conv => whnf); (try dsimp only); (try simp only [Nat.succ_eq_add_one, Nat.le_eq, castL_self]); (try omega))
        all_goals (try (first | omega | (simp only [lens] <;> omega)))
        all_goals first
          | omega
          | (rw [hs, seg_all _ hlen, hx, ← ht2]; rfl)
          | trace_state
    · have he : i = min l.length 40 := Nat.le_antisymm hi hge
      subst he
      repeat' (conv => whnf
               first | (with_reducible first | exact True.intro | rfl | exact castL_self _ _ | refine iteB_n ?_ | refine iteB_ct ?_ | refine iteB_cf ?_ | refine iteB_bt ?_ | refine iteB_bf ?_ | refine iteB_tb ?_ | refine iteB_fb ?_) | ((with_reducible refine V.same_t ?_); exact rfl) | ((with_reducible refine andB_room ?_ ?_ ?_); (· kernel_rfl); (· (first | omega | (simp only [lens] <;> omega)))) | ((with_reducible first | refine andB_in ?_ ?_ | refine andB_d ?_ ?_ | refine andB_lt ?_ ?_ | refine andB_le ?_ ?_ | refine iteB_ltt ?_ ?_ | refine iteB_let ?_ ?_ | refine iteB_dt ?_ ?_); · (first | (with_reducible assumption) | (first | omega | (simp only [lens] <;> omega)))) | ((with_reducible first | refine iteB_ltf ?_ ?_ | refine iteB_lef ?_ ?_ | refine iteB_df ?_ ?_); · (first | (with_reducible assumption) | (first | omega | (simp only [lens] <;> omega)))) | ((with_reducible first | refine andB_i ?_ ?_ | refine iteB_t ?_ ?_); · (first | (with_reducible first | assumption | exact decide_eq_true rfl | exact sEq_self _) | ((with_reducible refine eqOK_i ?_); kernel_rfl))) | ((with_reducible refine iteB_f ?_ ?_); · (first | (with_reducible first | assumption | exact decide_eq_true rfl | exact sEq_self _) | ((with_reducible refine eqOK_i ?_); kernel_rfl))) | (with_reducible refine CD.wk_au ?_) | (with_reducible first | refine andB_in ?_ ?_ | refine andB_lt ?_ ?_ | refine andB_le ?_ ?_ | refine andB_d ?_ ?_ | refine andB_i ?_ ?_ | refine iteB_lts (fun hB => ?_) (fun hB => ?_) | refine iteB_les (fun hB => ?_) (fun hB => ?_) | refine iteB_ds (fun hB => ?_) (fun hB => ?_) | refine iteB_s (fun hB => ?_) (fun hB => ?_) | refine CD.wk_as ?_ | refine And.intro ?_ ?_))
      all_goals ((conv => whnf); (try dsimp only); (try simp only [Nat.succ_eq_add_one, Nat.le_eq, castL_self]); (try omega))
      all_goals (try (first | omega | (simp only [lens] <;> omega)))
      all_goals trace_state
  · have h0 := ldL_0 l
    have h1 := ldT_0 l
    have h2 := ldL_len l (min l.length 40)
    repeat' (conv => whnf
             first | (with_reducible first | exact True.intro | rfl | exact castL_self _ _ | refine iteB_n ?_ | refine iteB_ct ?_ | refine iteB_cf ?_ | refine iteB_bt ?_ | refine iteB_bf ?_ | refine iteB_tb ?_ | refine iteB_fb ?_) | ((with_reducible refine V.same_t ?_); exact rfl) | ((with_reducible refine andB_room ?_ ?_ ?_); (· kernel_rfl); (· (first | omega | (simp only [lens] <;> omega)))) | ((with_reducible first | refine andB_in ?_ ?_ | refine andB_d ?_ ?_ | refine andB_lt ?_ ?_ | refine andB_le ?_ ?_ | refine iteB_ltt ?_ ?_ | refine iteB_let ?_ ?_ | refine iteB_dt ?_ ?_); · (first | (with_reducible assumption) | (first | omega | (simp only [lens] <;> omega)))) | ((with_reducible first | refine iteB_ltf ?_ ?_ | refine iteB_lef ?_ ?_ | refine iteB_df ?_ ?_); · (first | (with_reducible assumption) | (first | omega | (simp only [lens] <;> omega)))) | ((with_reducible first | refine andB_i ?_ ?_ | refine iteB_t ?_ ?_); · (first | (with_reducible first | assumption | exact decide_eq_true rfl | exact sEq_self _) | ((with_reducible refine eqOK_i ?_); kernel_rfl))) | ((with_reducible refine iteB_f ?_ ?_); · (first | (with_reducible first | assumption | exact decide_eq_true rfl | exact sEq_self _) | ((with_reducible refine eqOK_i ?_); kernel_rfl))) | (with_reducible refine CD.wk_au ?_) | (with_reducible first | refine andB_in ?_ ?_ | refine andB_lt ?_ ?_ | refine andB_le ?_ ?_ | refine andB_d ?_ ?_ | refine andB_i ?_ ?_ | refine iteB_lts (fun hB => ?_) (fun hB => ?_) | refine iteB_les (fun hB => ?_) (fun hB => ?_) | refine iteB_ds (fun hB => ?_) (fun hB => ?_) | refine iteB_s (fun hB => ?_) (fun hB => ?_) | refine CD.wk_as ?_ | refine And.intro ?_ ?_))
    all_goals ((conv => whnf); (try dsimp only); (try simp only [Nat.succ_eq_add_one, Nat.le_eq, castL_self]); (try omega))
    all_goals (try (first | omega | (simp only [lens] <;> omega)))
    all_goals first
      | omega
      | rfl
      | exact congrArg (fun l => V.lst entE l false) (seg_all (ldL l (min l.length 40)) h2)
      | trace_state
end
end Go.Proofs.Ytlkbmjdgfbciaaa
end

section
namespace Go.Proofs.Ytlkbmjdgfbciaaa
open Go.Sym
set_option linter.unusedVariables false
set_option linter.unusedSimpArgs false
set_option maxRecDepth 100000
set_option maxHeartbeats 4000000

theorem has_at (i0 t0 : Int) (L M : List EnR) (hL : L.length ≤ 1000000) (hM : slF 0 9223372036854775808 L L.length = M) : PureAt Try.prog 33 [.lptr logE [(i0, t0, L)] 0 0, .lst entE M false] (.bool true) := by
  have r3 : List.length (α := rowDen entE) (Sym.rowAt logE [(i0, t0, L)] 0).2.2 = List.length (α := EnR) L := rfl
  have hs := slF_len 0 9223372036854775808 L L.length
  have hq : eqE' (slF 0 9223372036854775808 L L.length) M = true := by rw [hM]; exact eqE_self _
  refine pure_of_W0 (tab := tabR1) (fuel := 3) (d := 5) tabR1_ok ?_
  repeat' (conv => whnf
           first | (with_reducible first | exact True.intro | rfl | exact castL_self _ _ | refine iteB_n ?_ | refine iteB_ct ?_ | refine iteB_cf ?_ | refine iteB_bt ?_ | refine iteB_bf ?_ | refine iteB_tb ?_ | refine iteB_fb ?_) | ((with_reducible refine V.same_t ?_); exact rfl) | ((with_reducible refine andB_room ?_ ?_ ?_); (· kernel_rfl); (· (first | omega | (simp only [lens] <;> omega)))) | ((with_reducible first | refine andB_in ?_ ?_ | refine andB_d ?_ ?_ | refine andB_lt ?_ ?_ | refine andB_le ?_ ?_ | refine iteB_ltt ?_ ?_ | refine iteB_let ?_ ?_ | refine iteB_dt ?_ ?_); · (first | (with_reducible assumption) | (first | omega | (simp only [lens] <;> omega)))) | ((with_reducible first | refine iteB_ltf ?_ ?_ | refine iteB_lef ?_ ?_ | refine iteB_df ?_ ?_); · (first | (with_reducible assumption) | (first | omega | (simp only [lens] <;> omega)))) | ((with_reducible first | refine andB_i ?_ ?_ | refine iteB_t ?_ ?_); · (first | (with_reducible first | assumption | exact decide_eq_true rfl | exact sEq_self _) | ((with_reducible refine eqOK_i ?_); kernel_rfl))) | ((with_reducible refine iteB_f ?_ ?_); · (first | (with_reducible first | assumption | exact decide_eq_true rfl | exact sEq_self _) | ((with_reducible refine eqOK_i ?_); kernel_rfl))) | (with_reducible first | refine andB_in ?_ ?_ | refine andB_lt ?_ ?_ | refine andB_le ?_ ?_ | refine andB_d ?_ ?_ | refine andB_i ?_ ?_ | refine iteB_lts (fun hB => ?_) (fun hB => ?_) | refine iteB_les (fun hB => ?_) (fun hB => ?_) | refine iteB_ds (fun hB => ?_) (fun hB => ?_) | refine iteB_s (fun hB => ?_) (fun hB => ?_) | refine CD.wk_as ?_ | refine And.intro ?_ ?_))
  all_goals ((conv => whnf); (try dsimp only); (try simp only [Nat.succ_eq_add_one, Nat.le_eq, castL_self]); (try omega))
  all_goals (try (first | omega | (simp only [lens] <;> omega)))
  all_goals first
    | exact hq
    | rfl
    | trace_state
noncomputable def hasF (args : List V) : Option (List Bool × V) := match args with
  | [a, b] => (match oneLog a, ofLst entE b with
    | some (i0, t0, L), some M => some ([decide (List.length (α := EnR) L ≤ 1000000), eqE' (slF 0 9223372036854775808 L (List.length (α := EnR) L)) M], .bool true)
    | _, _ => none)
  | _ => none
theorem hasF_ok (args : List V) (c : List Bool) (v : V) (h : hasF args = some (c, v)) (hc : allB c) : PureAt Try.prog 33 args v := by
  unfold hasF at h
  split at h
  · rename_i a b
    split at h
    · rename_i i0 t0 L M hx hM
      cases h
      obtain rfl := oneLog_eq hx
      exact PureAt.lst (pre := [.lptr logE [(i0, t0, L)] 0 0]) (rest := []) (has_at i0 t0 L M (of_decide_eq_true hc.1) (eqE_of hc.2.1)) hM
    · cases h
  · cases h

structure PutOk (i0 t0 : Int) (L : List EnR) (idx trm : Int) (E : List EnR) : Prop where
  r0 : 0 ≤ i0 ∧ i0 < 18446744073709551616
  r1 : 0 ≤ idx ∧ idx < 18446744073709551616
  rl : L.length ≤ 1000000 ∧ E.length ≤ 1000000
  rE : ∀ j, j < E.length → 0 ≤ (rowE E j).2.1 ∧ (rowE E j).2.1 < 18446744073709551616
  fol : folL idx trm E = true
  at' : idx < i0 ∨ (termI i0 t0 L idx = true ∧ termV i0 t0 L idx = trm)
  all : ∀ j, j < E.length → (rowE E j).2.1 ≤ i0 ∨ (termI i0 t0 L (rowE E j).2.1 = true ∧ termV i0 t0 L (rowE E j).2.1 = (rowE E j).1)
noncomputable def lastP : Int → List EnR → Int := hide fun idx E => if E.length = 0 then idx else (rowE E (E.length - 1)).2.1
theorem lastP_0 {idx : Int} {E : List EnR} (h : E.length = 0) : lastP idx E = idx := by unfold lastP; rw [hide_eq]; exact if_pos h
theorem lastP_1 {idx : Int} {E : List EnR} (h : E.length ≠ 0) : lastP idx E = (rowE E (E.length - 1)).2.1 := by unfold lastP; rw [hide_eq]; exact if_neg h
section
variable (i0 t0 : Int) (L : List EnR) (idx trm : Int) (E : List EnR)
noncomputable def ppC (i : Nat) : CD := ⟨116, [(0, .lptr logE [(i0, t0, L)] 0 0), (3, .lst entE E false), (8, .int .u64 (lastP idx E)), (62, .lst entE E false), (63, .int .i64 ((List.length (α := EnR) E : Nat) : Int)), (64, .int .i64 (i : Int))], [], [], 0⟩
theorem put_at (h : PutOk i0 t0 L idx trm E) : PureAt Try.prog 24 [.lptr logE [(i0, t0, L)] 0 0, .int .u64 idx, .int .u64 trm, .lst entE E false] (.tup [.int .u64 (lastP idx E), .int .u64 0, .bool true]) := by
  have r0 := h.r0
  have r1 := h.r1
  have rl := h.rl
  have q1 : @Eq Int (Sym.rowAt logE [(i0, t0, L)] 0).1 i0 := rfl
  have q3 : List.length (α := rowDen entE) (Sym.rowAt logE [(i0, t0, L)] 0).2.2 = List.length (α := EnR) L := rfl
  refine pure_of_loop tabR1_ok (fuel := 3) (d := 5) 10 (X := { i : Nat // i ≤ E.length }) (fun x => ppC i0 t0 L idx E x.1) (fun x => E.length - x.1) (fun _ => .leaf (.exit 0) (ppC i0 t0 L idx E E.length)) ⟨0, Nat.zero_le _⟩ [] rfl ?_ ?_
  · rintro ⟨i, hi⟩
    dsimp only
    rcases Nat.lt_or_ge i E.length with hlt | hge
    · have rE := h.rE i hlt
      have ha := h.all i hlt
      obtain ⟨w, ew⟩ : ∃ w : Int, @Eq Int w (Sym.rowAt entE E (Int.toNat (i : Int))).2.1 := ⟨_, rfl⟩
      have ew0 : @Eq Int (Sym.rowAt entE E i).2.1 w := ew.symm
      rw [show (rowE E i).2.1 = w from ew0] at rE ha
      rcases ha with ha | ha
      · repeat' (conv => whnf
                 first | (with_reducible first | exact True.intro | rfl | exact castL_self _ _ | refine iteB_n ?_ | refine iteB_ct ?_ | refine iteB_cf ?_ | refine iteB_bt ?_ | refine iteB_bf ?_ | refine iteB_tb ?_ | refine iteB_fb ?_) | ((with_reducible refine V.same_t ?_); exact rfl) | ((with_reducible refine andB_room ?_ ?_ ?_); (· kernel_rfl); (· (first | omega | (simp only [lens] <;> omega)))) | ((with_reducible first | refine andB_in ?_ ?_ | refine andB_d ?_ ?_ | refine andB_lt ?_ ?_ | refine andB_le ?_ ?_ | refine iteB_ltt ?_ ?_ | refine iteB_let ?_ ?_ | refine iteB_dt ?_ ?_); · (first | (with_reducible assumption) | (first | omega | (simp only [lens] <;> omega)))) | ((with_reducible first | refine iteB_ltf ?_ ?_ | refine iteB_lef ?_ ?_ | refine iteB_df ?_ ?_); · (first | (with_reducible assumption) | (first | omega | (simp only [lens] <;> omega)))) | ((with_reducible first | refine andB_i ?_ ?_ | refine iteB_t ?_ ?_); · (first | (with_reducible first | assumption | exact decide_eq_true rfl | exact sEq_self _) | ((with_reducible refine eqOK_i ?_); kernel_rfl))) | ((with_reducible refine iteB_f ?_ ?_); · (first | (with_reducible first | assumption | exact decide_eq_true rfl | exact sEq_self _) | ((with_reducible refine eqOK_i ?_); kernel_rfl))) | (refine ⟨⟨i + 1, hlt⟩, ?_, rfl, ?_⟩) | (with_reducible refine CD.wk_au ?_) | (with_reducible first | refine andB_in ?_ ?_ | refine andB_lt ?_ ?_ | refine andB_le ?_ ?_ | refine andB_d ?_ ?_ | refine andB_i ?_ ?_ | refine iteB_lts (fun hB => ?_) (fun hB => ?_) | refine iteB_les (fun hB => ?_) (fun hB => ?_) | refine iteB_ds (fun hB => ?_) (fun hB => ?_) | refine iteB_s (fun hB => ?_) (fun hB => ?_) | refine CD.wk_as ?_ | refine And.intro ?_ ?_))
        all_goals ((conv => whnf); (try dsimp only); (try simp only [Nat.succ_eq_add_one, Nat.le_eq, castL_self]); (try omega))
        all_goals (try (first | omega | (simp only [lens] <;> omega)))
        all_goals trace_state
      · obtain ⟨ha1, ha2⟩ := ha
        have hb1 : termI i0 t0 L (Sym.rowAt entE E (Int.toNat (i : Int))).2.1 = true := by rw [← ew]; exact ha1
        have hb2 : @Eq Int (termV i0 t0 L (Sym.rowAt entE E (Int.toNat (i : Int))).2.1) (Sym.rowAt entE E (Int.toNat (i : Int))).1 := by rw [← ew]; exact ha2
        repeat' (conv => whnf
                 first | (with_reducible first | exact True.intro | rfl | exact castL_self _ _ | refine iteB_n ?_ | refine iteB_ct ?_ | refine iteB_cf ?_ | refine iteB_bt ?_ | refine iteB_bf ?_ | refine iteB_tb ?_ | refine iteB_fb ?_) | ((with_reducible refine V.same_t ?_); exact rfl) | ((with_reducible refine andB_room ?_ ?_ ?_); (· kernel_rfl); (· (first | omega | (simp only [lens] <;> omega)))) | ((with_reducible first | refine andB_in ?_ ?_ | refine andB_d ?_ ?_ | refine andB_lt ?_ ?_ | refine andB_le ?_ ?_ | refine iteB_ltt ?_ ?_ | refine iteB_let ?_ ?_ | refine iteB_dt ?_ ?_); · (first | (with_reducible assumption) | (first | omega | (simp only [lens] <;> omega)))) | ((with_reducible first | refine iteB_ltf ?_ ?_ | refine iteB_lef ?_ ?_ | refine iteB_df ?_ ?_); · (first | (with_reducible assumption) | (first | omega | (simp only [lens] <;> omega)))) | ((with_reducible first | refine andB_i ?_ ?_ | refine iteB_t ?_ ?_); · (first | (with_reducible first | assumption | exact decide_eq_true rfl | exact sEq_self _) | ((with_reducible refine eqOK_i ?_); kernel_rfl))) | ((with_reducible refine iteB_f ?_ ?_); · (first | (with_reducible first | assumption | exact decide_eq_true rfl | exact sEq_self _) | ((with_reducible refine eqOK_i ?_); kernel_rfl))) | (refine ⟨⟨i + 1, hlt⟩, ?_, rfl, ?_⟩) | (with_reducible refine CD.wk_au ?_) | (with_reducible first | refine andB_in ?_ ?_ | refine andB_lt ?_ ?_ | refine andB_le ?_ ?_ | refine andB_d ?_ ?_ | refine andB_i ?_ ?_ | refine iteB_lts (fun hB => ?_) (fun hB => ?_) | refine iteB_les (fun hB => ?_) (fun hB => ?_) | refine iteB_ds (fun hB => ?_) (fun hB => ?_) | refine iteB_s (fun hB => ?_) (fun hB => ?_) | refine CD.wk_as ?_ | refine And.intro ?_ ?_))
        all_goals ((conv => whnf); (try dsimp only); (try simp only [Nat.succ_eq_add_one, Nat.le_eq, castL_self]); (try omega))
        all_goals (try (first | omega | (simp only [lens] <;> omega)))
        all_goals trace_state
    · have he : i = E.length := Nat.le_antisymm hi hge
      subst he
      repeat' (conv => whnf
               first | (with_reducible first | exact True.intro | rfl | exact castL_self _ _ | refine iteB_n ?_ | refine iteB_ct ?_ | refine iteB_cf ?_ | refine iteB_bt ?_ | refine iteB_bf ?_ | refine iteB_tb ?_ | refine iteB_fb ?_) | ((with_reducible refine V.same_t ?_); exact rfl) | ((with_reducible refine andB_room ?_ ?_ ?_); (· kernel_rfl); (· (first | omega | (simp only [lens] <;> omega)))) | ((with_reducible first | refine andB_in ?_ ?_ | refine andB_d ?_ ?_ | refine andB_lt ?_ ?_ | refine andB_le ?_ ?_ | refine iteB_ltt ?_ ?_ | refine iteB_let ?_ ?_ | refine iteB_dt ?_ ?_); · (first | (with_reducible assumption) | (first | omega | (simp only [lens] <;> omega)))) | ((with_reducible first | refine iteB_ltf ?_ ?_ | refine iteB_lef ?_ ?_ | refine iteB_df ?_ ?_); · (first | (with_reducible assumption) | (first | omega | (simp only [lens] <;> omega)))) | ((with_reducible first | refine andB_i ?_ ?_ | refine iteB_t ?_ ?_); · (first | (with_reducible first | assumption | exact decide_eq_true rfl | exact sEq_self _) | ((with_reducible refine eqOK_i ?_); kernel_rfl))) | ((with_reducible refine iteB_f ?_ ?_); · (first | (with_reducible first | assumption | exact decide_eq_true rfl | exact sEq_self _) | ((with_reducible refine eqOK_i ?_); kernel_rfl))) | (with_reducible refine CD.wk_au ?_) | (with_reducible first | refine andB_in ?_ ?_ | refine andB_lt ?_ ?_ | refine andB_le ?_ ?_ | refine andB_d ?_ ?_ | refine andB_i ?_ ?_ | refine iteB_lts (fun hB => ?_) (fun hB => ?_) | refine iteB_les (fun hB => ?_) (fun hB => ?_) | refine iteB_ds (fun hB => ?_) (fun hB => ?_) | refine iteB_s (fun hB => ?_) (fun hB => ?_) | refine CD.wk_as ?_ | refine And.intro ?_ ?_))
      all_goals ((conv => whnf); (try dsimp only); (try simp only [Nat.succ_eq_add_one, Nat.le_eq, castL_self]); (try omega))
      all_goals (try (first | omega | (simp only [lens] <;> omega)))
      all_goals trace_state
  · have hf := h.fol
    have hE : (List.length (α := EnR) E : Int) = ((List.length (α := rowDen entE) E : Nat) : Int) := rfl
    rcases h.at' with ha | ⟨ha1, ha2⟩
    all_goals
      repeat' (conv => whnf
               first | (with_reducible first | exact True.intro | rfl | exact castL_self _ _ | refine iteB_n ?_ | refine iteB_ct ?_ | refine iteB_cf ?_ | refine iteB_bt ?_ | refine iteB_bf ?_ | refine iteB_tb ?_ | refine iteB_fb ?_) | ((with_reducible refine V.same_t ?_); exact rfl) | ((with_reducible refine andB_room ?_ ?_ ?_); (· kernel_rfl); (· (first | omega | (simp only [lens] <;> omega)))) | ((with_reducible first | refine andB_in ?_ ?_ | refine andB_d ?_ ?_ | refine andB_lt ?_ ?_ | refine andB_le ?_ ?_ | refine iteB_ltt ?_ ?_ | refine iteB_let ?_ ?_ | refine iteB_dt ?_ ?_); · (first | (with_reducible assumption) | (first | omega | (simp only [lens] <;> omega)))) | ((with_reducible first | refine iteB_ltf ?_ ?_ | refine iteB_lef ?_ ?_ | refine iteB_df ?_ ?_); · (first | (with_reducible assumption) | (first | omega | (simp only [lens] <;> omega)))) | ((with_reducible first | refine andB_i ?_ ?_ | refine iteB_t ?_ ?_); · (first | (with_reducible first | assumption | exact decide_eq_true rfl | exact sEq_self _) | ((with_reducible refine eqOK_i ?_); kernel_rfl))) | ((with_reducible refine iteB_f ?_ ?_); · (first | (with_reducible first | assumption | exact decide_eq_true rfl | exact sEq_self _) | ((with_reducible refine eqOK_i ?_); kernel_rfl))) | (with_reducible refine CD.wk_au ?_) | (with_reducible first | refine andB_in ?_ ?_ | refine andB_lt ?_ ?_ | refine andB_le ?_ ?_ | refine andB_d ?_ ?_ | refine andB_i ?_ ?_ | refine iteB_lts (fun hB => ?_) (fun hB => ?_) | refine iteB_les (fun hB => ?_) (fun hB => ?_) | refine iteB_ds (fun hB => ?_) (fun hB => ?_) | refine iteB_s (fun hB => ?_) (fun hB => ?_) | refine CD.wk_as ?_ | refine And.intro ?_ ?_))
      all_goals ((conv => whnf); (try dsimp only); (try simp only [Nat.succ_eq_add_one, Nat.le_eq, castL_self]); (try omega))
      all_goals (try (first | omega | (simp only [lens] <;> omega)))
    all_goals first
      | omega
      | rfl
      | (exact Bool.noConfusion (hf.symm.trans hB))
      | exact (lastP_0 (by omega)).symm
      | exact (lastP_1 (by omega)).symm
      | (rw [lastP_1 (by omega), show (((List.length (α := EnR) E : Nat) : Int) - 1).toNat = List.length (α := EnR) E - 1 by omega]; done)
      | (rw [lastP_1 (by omega), show (((List.length (α := EnR) E : Nat) : Int) - 1).toNat = List.length (α := EnR) E - 1 by omega]; rfl)
      | trace_state
end
end Go.Proofs.Ytlkbmjdgfbciaaa
end

section
namespace Go.Proofs.Ytlkbmjdgfbciaaa
open Go.RowKit Go.Lib
set_option linter.unusedVariables false
set_option linter.unusedSimpArgs false
set_option maxRecDepth 100000
set_option maxHeartbeats 4000000
theorem entInfo : (Try.prog.info? 58).map (fun i => (i.zero, i.size, i.bytes)) = some (some (.agg #[.int .u64 0, .int .u64 0, .string { data := #[] }]), 3, 32) := by kernel_rfl
theorem cloneE_zero (a : Addr) (c : Nat) (w : World) :
    Calls Try.prog 50 #[.slice (some a) 0 c] w fun e w' => ∃ v', e = .returned v' ∧ w'.ownsRow w.heap.size 58 3 v' 0 [] ∧ Below w.heap.size w w' := by
  obtain ⟨i0, hi, hz0, hz1, hz2⟩ := info_parts entInfo
  have t22 := Try.underlying54
  have q22 : ∀ (w : World) (a : Option Addr) (n c n' c' : Nat), (binOp .eql 54 (.slice a n c) (.slice none n' c')).run Try.prog w = .ok (.bool a.isNone) w := fun w a n c n' c' => Lib.run_eql_slice_nil w _ _ a n c n' c' t22
  go_enter Try.func50, Try.ntmps50
  go_wp2_with (at_builtin; refine wpList_append_own _ rfl _ _ 54 rfl w.heap.size 58 i0 (.agg #[.int .u64 0, .int .u64 0, .string { data := #[] }]) 3 32 t22 hi hz0 hz1 hz2 rfl (by decide) _ _ _ rfl (World.ownsRow_made w #[] 0 (Nat.le_refl _) (Nat.zero_le _) rfl) a 0 c [] rfl rfl (by intro j u hj; simp at hj) (by intro u hu; cases hu) (by unfold maxLen; omega) (by omega) (by simp) ?_)
  intro v' w1 hown hgrow hnil
  go_wp2
  go_ret
  refine ⟨v', rfl, by simpa using hown, ?_⟩
  exact ((Below.refl _ w).alloc (Nat.le_refl _) _).grown hgrow (by simp) (by intro k hk; simp [Value.ownBlock] at hk; omega)
open Go.Sym
theorem cloneE_nil : PureAt Try.prog 50 [.nils] .nils := by
  refine pure_of_W0 (tab := noTab) (fuel := 3) (d := 5) noTab_ok ?_
  repeat' (conv => whnf
           first | (with_reducible first | exact True.intro | rfl | exact castL_self _ _ | refine iteB_n ?_ | refine iteB_ct ?_ | refine iteB_cf ?_ | refine iteB_bt ?_ | refine iteB_bf ?_ | refine iteB_tb ?_ | refine iteB_fb ?_) | ((with_reducible refine V.same_t ?_); exact rfl) | ((with_reducible refine andB_room ?_ ?_ ?_); (· kernel_rfl); (· (first | omega | (simp only [lens] <;> omega)))) | ((with_reducible first | refine andB_in ?_ ?_ | refine andB_d ?_ ?_ | refine andB_lt ?_ ?_ | refine andB_le ?_ ?_ | refine iteB_ltt ?_ ?_ | refine iteB_let ?_ ?_ | refine iteB_dt ?_ ?_); · (first | (with_reducible assumption) | (first | omega | (simp only [lens] <;> omega)))) | ((with_reducible first | refine iteB_ltf ?_ ?_ | refine iteB_lef ?_ ?_ | refine iteB_df ?_ ?_); · (first | (with_reducible assumption) | (first | omega | (simp only [lens] <;> omega)))) | ((with_reducible first | refine andB_i ?_ ?_ | refine iteB_t ?_ ?_); · (first | (with_reducible first | assumption | exact decide_eq_true rfl | exact sEq_self _) | ((with_reducible refine eqOK_i ?_); kernel_rfl))) | ((with_reducible refine iteB_f ?_ ?_); · (first | (with_reducible first | assumption | exact decide_eq_true rfl | exact sEq_self _) | ((with_reducible refine eqOK_i ?_); kernel_rfl))) | (with_reducible first | refine andB_in ?_ ?_ | refine andB_lt ?_ ?_ | refine andB_le ?_ ?_ | refine andB_d ?_ ?_ | refine andB_i ?_ ?_ | refine iteB_lts (fun hB => ?_) (fun hB => ?_) | refine iteB_les (fun hB => ?_) (fun hB => ?_) | refine iteB_ds (fun hB => ?_) (fun hB => ?_) | refine iteB_s (fun hB => ?_) (fun hB => ?_) | refine CD.wk_as ?_ | refine And.intro ?_ ?_))
  all_goals ((conv => whnf); (try dsimp only); (try simp only [Nat.succ_eq_add_one, Nat.le_eq, castL_self]); (try omega))
  all_goals (try (first | omega | (simp only [lens] <;> omega)))
  all_goals trace_state
theorem cloneE_pos (L : List EnR) (h : 0 < L.length) (h2 : L.length ≤ 1000000) : PureAt Try.prog 50 [.lst entE L false] (.lst entE L false) := by
  refine pure_of_W0 (tab := noTab) (fuel := 3) (d := 5) noTab_ok ?_
  repeat' (conv => whnf
           first | (with_reducible first | exact True.intro | rfl | exact castL_self _ _ | refine iteB_n ?_ | refine iteB_ct ?_ | refine iteB_cf ?_ | refine iteB_bt ?_ | refine iteB_bf ?_ | refine iteB_tb ?_ | refine iteB_fb ?_) | ((with_reducible refine V.same_t ?_); exact rfl) | ((with_reducible refine andB_room ?_ ?_ ?_); (· kernel_rfl); (· (first | omega | (simp only [lens] <;> omega)))) | ((with_reducible first | refine andB_in ?_ ?_ | refine andB_d ?_ ?_ | refine andB_lt ?_ ?_ | refine andB_le ?_ ?_ | refine iteB_ltt ?_ ?_ | refine iteB_let ?_ ?_ | refine iteB_dt ?_ ?_); · (first | (with_reducible assumption) | (first | omega | (simp only [lens] <;> omega)))) | ((with_reducible first | refine iteB_ltf ?_ ?_ | refine iteB_lef ?_ ?_ | refine iteB_df ?_ ?_); · (first | (with_reducible assumption) | (first | omega | (simp only [lens] <;> omega)))) | ((with_reducible first | refine andB_i ?_ ?_ | refine iteB_t ?_ ?_); · (first | (with_reducible first | assumption | exact decide_eq_true rfl | exact sEq_self _) | ((with_reducible refine eqOK_i ?_); kernel_rfl))) | ((with_reducible refine iteB_f ?_ ?_); · (first | (with_reducible first | assumption | exact decide_eq_true rfl | exact sEq_self _) | ((with_reducible refine eqOK_i ?_); kernel_rfl))) | (with_reducible first | refine andB_in ?_ ?_ | refine andB_lt ?_ ?_ | refine andB_le ?_ ?_ | refine andB_d ?_ ?_ | refine andB_i ?_ ?_ | refine iteB_lts (fun hB => ?_) (fun hB => ?_) | refine iteB_les (fun hB => ?_) (fun hB => ?_) | refine iteB_ds (fun hB => ?_) (fun hB => ?_) | refine iteB_s (fun hB => ?_) (fun hB => ?_) | refine CD.wk_as ?_ | refine And.intro ?_ ?_))
  all_goals ((conv => whnf); (try dsimp only); (try simp only [Nat.succ_eq_add_one, Nat.le_eq, castL_self]); (try omega))
  all_goals (try (first | omega | (simp only [lens] <;> omega)))
  all_goals first
    | exact congrArg (fun l => V.lst entE l false) (seg_all L (Nat.zero_add _).symm)
    | trace_state
theorem cloneE_at (L : List EnR) (h2 : L.length ≤ 1000000) : PureAt Try.prog 50 [.lst entE L false] (.lst entE L false) := by
  rcases Nat.eq_zero_or_pos L.length with h0 | h0
  · obtain rfl : L = [] := List.eq_nil_of_length_eq_zero h0
    intro φ w A hφ hA
    obtain ⟨X, Y, hX, hv, hY⟩ := hA
    have hY : Y = [] := hY
    subst hY
    simp only [VRel] at hv
    obtain ⟨a, c, rfl, _, _, hn, _⟩ := hv
    cases a with
    | none =>
      obtain rfl := hn rfl
      refine (cloneE_nil φ w A hφ ⟨.slice none 0 0, [], hX, by simp only [VRel], rfl⟩).mono ?_
      rintro E w' ⟨φ', Z, h1, h2, h3, h4, h5, h6⟩
      simp only [VRel] at h5
      exact ⟨φ', Z, h1, h2, h3, h4, by simp only [VRel]; exact ⟨none, 0, h5, Nat.le_refl _, fun h => (by cases h), fun _ => rfl, fun hp => absurd hp (Nat.lt_irrefl _)⟩, h6⟩
    | some a =>
      have hA : A = #[.slice (some a) 0 c] := Array.ext' hX
      subst hA
      refine (cloneE_zero a c w).mono ?_
      rintro E w' ⟨v', rfl, hown, hb⟩
      refine ⟨φ, v', rfl, fun _ _ _ h => h, fun _ _ _ => rfl, fun B k u hu => ?_, ?_, hb⟩
      · have hc := hφ B k u hu
        have hlt : B < w.heap.size := Nat.lt_of_not_le fun hh => by simp [World.cell?, Array.getElem?_eq_none hh] at hc
        rw [cell_of_block (h := hb.block B hlt)]
        exact hc
      · simp only [VRel]
        rcases hown.2 with ⟨rfl, _⟩ | ⟨g, cap, cur, rfl, _⟩
        · exact ⟨none, 0, rfl, Nat.le_refl _, fun h => (by cases h), fun _ => rfl, fun hp => absurd hp (Nat.lt_irrefl _)⟩
        · exact ⟨_, cap, rfl, Nat.zero_le _, fun h => (by cases h), fun h => (by cases h), fun hp => absurd hp (Nat.lt_irrefl _)⟩
  · exact cloneE_pos L h0 h2
noncomputable def cloneF (args : List V) : Option (List Bool × V) := match args with
  | [b] => (match ofLst entE b with
    | some L => some ([decide (List.length (α := EnR) L ≤ 1000000)], .lst entE L false)
    | none => none)
  | _ => none
theorem cloneF_ok (args : List V) (c : List Bool) (v : V) (h : cloneF args = some (c, v)) (hc : allB c) : PureAt Try.prog 50 args v := by
  unfold cloneF at h
  split at h
  · rename_i b
    split at h
    · rename_i L hL
      cases h
      exact PureAt.lst (pre := []) (rest := []) (cloneE_at L (of_decide_eq_true hc.1)) hL
    · cases h
  · cases h
end Go.Proofs.Ytlkbmjdgfbciaaa
end

section
namespace Go.Proofs.Ytlkbmjdgfbciaaa
open Go.Sym
set_option maxRecDepth 100000
set_option maxHeartbeats 4000000
theorem works20_at : PureAt Try.prog 21 [] (.bool true) := by
  have m1 := maxI_eq 0 1
  have m2 := maxI_eq 1 2
  have m3 := maxI_eq 2 0
  have m4 := maxI_eq 3 1
  have m5 := maxI_eq 0 3
  refine pure_of_W0 (tab := noTab) (fuel := 20) (d := 12) noTab_ok ?_
  repeat' (conv => whnf
           first | (with_reducible first | exact True.intro | rfl | exact castL_self _ _ | refine iteB_n ?_ | refine iteB_ct ?_ | refine iteB_cf ?_ | refine iteB_bt ?_ | refine iteB_bf ?_ | refine iteB_tb ?_ | refine iteB_fb ?_) | ((with_reducible refine V.same_t ?_); exact rfl) | ((with_reducible refine andB_room ?_ ?_ ?_); (· kernel_rfl); (· (first | omega | (decide +kernel) | (simp only [maxI_eq] <;> decide +kernel)))) | ((with_reducible first | refine andB_in ?_ ?_ | refine andB_d ?_ ?_ | refine andB_lt ?_ ?_ | refine andB_le ?_ ?_ | refine iteB_ltt ?_ ?_ | refine iteB_let ?_ ?_ | refine iteB_dt ?_ ?_); · (first | (with_reducible assumption) | (first | omega | (decide +kernel) | (simp only [maxI_eq] <;> decide +kernel)))) | ((with_reducible first | refine iteB_ltf ?_ ?_ | refine iteB_lef ?_ ?_ | refine iteB_df ?_ ?_); · (first | (with_reducible assumption) | (first | omega | (decide +kernel) | (simp only [maxI_eq] <;> decide +kernel)))) | ((with_reducible first | refine andB_i ?_ ?_ | refine iteB_t ?_ ?_); · (first | (with_reducible first | assumption | exact decide_eq_true rfl | exact sEq_self _) | ((with_reducible refine eqOK_i ?_); kernel_rfl))) | ((with_reducible refine iteB_f ?_ ?_); · (first | (with_reducible first | assumption | exact decide_eq_true rfl | exact sEq_self _) | ((with_reducible refine eqOK_i ?_); kernel_rfl))) | (with_reducible first | refine andB_in ?_ ?_ | refine andB_lt ?_ ?_ | refine andB_le ?_ ?_ | refine andB_d ?_ ?_ | refine andB_i ?_ ?_ | refine iteB_lts (fun hB => ?_) (fun hB => ?_) | refine iteB_les (fun hB => ?_) (fun hB => ?_) | refine iteB_ds (fun hB => ?_) (fun hB => ?_) | refine iteB_s (fun hB => ?_) (fun hB => ?_) | refine CD.wk_as ?_ | refine And.intro ?_ ?_))
  all_goals ((conv => whnf); (try dsimp only); (try simp only [Nat.succ_eq_add_one, Nat.le_eq, castL_self]); (try omega))
  all_goals (try (first | omega | (decide +kernel) | (simp only [maxI_eq] <;> decide +kernel)))
  all_goals first
    | rfl
    | trace_state
end Go.Proofs.Ytlkbmjdgfbciaaa
end

section
namespace Go.Proofs.Ytlkbmjdgfbciaaa
open Go.Sym
set_option linter.unusedVariables false
set_option linter.unusedSimpArgs false
set_option maxRecDepth 100000
set_option maxHeartbeats 4000000
open Classical in
noncomputable def putB : Int → Int → List EnR → Int → Int → List EnR → Bool := hide fun i0 t0 L idx trm E => decide (PutOk i0 t0 L idx trm E)
open Classical in
theorem putB_ok {i0 t0 : Int} {L : List EnR} {idx trm : Int} {E : List EnR} (h : PutOk i0 t0 L idx trm E) : putB i0 t0 L idx trm E = true := by
  unfold putB
  rw [hide_eq]
  exact decide_eq_true h
open Classical in
theorem putB_of {i0 t0 : Int} {L : List EnR} {idx trm : Int} {E : List EnR} (h : putB i0 t0 L idx trm E = true) : PutOk i0 t0 L idx trm E := by
  unfold putB at h
  rw [hide_eq] at h
  exact of_decide_eq_true h
noncomputable def putF (args : List V) : Option (List Bool × V) := match args with
  | [a, .int .u64 idx, .int .u64 trm, b] => (match oneLog a, ofLst entE b with
    | some (i0, t0, L), some E => some ([putB i0 t0 L idx trm E], .tup [.int .u64 (lastP idx E), .int .u64 0, .bool true])
    | _, _ => none)
  | _ => none
theorem putF_ok (args : List V) (c : List Bool) (v : V) (h : putF args = some (c, v)) (hc : allB c) : PureAt Try.prog 24 args v := by
  unfold putF at h
  split at h
  · rename_i a idx trm b
    split at h
    · rename_i i0 t0 L E hx hE
      cases h
      obtain rfl := oneLog_eq hx
      exact PureAt.lst (pre := [.lptr logE [(i0, t0, L)] 0 0, .int .u64 idx, .int .u64 trm]) (rest := []) (put_at i0 t0 L idx trm E (putB_of hc.1)) hE
    · cases h
  · cases h
open Classical in
noncomputable def okU8 : List Int → Bool := hide fun l => decide (∀ i, i < l.length → @LE.le Int _ 0 (Sym.rowAt [.int .u8] l i) ∧ @LT.lt Int _ (Sym.rowAt [.int .u8] l i) 256)
open Classical in
theorem okU8_ok {l : List Int} (h : ∀ i, i < l.length → @LE.le Int _ 0 (Sym.rowAt [.int .u8] l i) ∧ @LT.lt Int _ (Sym.rowAt [.int .u8] l i) 256) : okU8 l = true := by
  unfold okU8
  rw [hide_eq]
  exact decide_eq_true h
open Classical in
theorem okU8_of {l : List Int} (h : okU8 l = true) : ∀ i, i < l.length → @LE.le Int _ 0 (Sym.rowAt [.int .u8] l i) ∧ @LT.lt Int _ (Sym.rowAt [.int .u8] l i) 256 := by
  unfold okU8 at h
  rw [hide_eq] at h
  exact of_decide_eq_true h
noncomputable def allL : List Int → List EnR := hide fun l => ldL l (min l.length 40)
theorem allL_eq (l : List Int) : allL l = ldL l (min l.length 40) := by unfold allL; rw [hide_eq]
noncomputable def leaderF (args : List V) : Option (List Bool × V) := match args with
  | [b] => (match ofLst [.int .u8] b with
    | some l => some ([decide (l.length ≤ 9223372036854775807), okU8 l], .lst entE (allL l) false)
    | none => none)
  | _ => none
theorem leaderF_ok (args : List V) (c : List Bool) (v : V) (h : leaderF args = some (c, v)) (hc : allB c) : PureAt Try.prog 22 args v := by
  unfold leaderF at h
  split at h
  · rename_i b
    split at h
    · rename_i l hl
      cases h
      rw [allL_eq]
      exact PureAt.lst (pre := []) (rest := []) (leader_at l (of_decide_eq_true hc.1) (okU8_of hc.2.1)) hl
    · cases h
  · cases h
noncomputable def works20F (args : List V) : Option (List Bool × V) := match args with
  | [] => some ([], .bool true)
  | _ => none
theorem works20F_ok (args : List V) (c : List Bool) (v : V) (h : works20F args = some (c, v)) (hc : allB c) : PureAt Try.prog 21 args v := by
  unfold works20F at h
  split at h
  · cases h; exact works20_at
  · cases h
noncomputable def tabR2 : Tab := oneTab 50 cloneF (oneTab 33 hasF (oneTab 24 putF (oneTab 22 leaderF (oneTab 21 works20F tabR1))))
theorem tabR2_ok : TabOK Try.prog tabR2 := oneTab_ok cloneF_ok (oneTab_ok hasF_ok (oneTab_ok putF_ok (oneTab_ok leaderF_ok (oneTab_ok works20F_ok tabR1_ok))))

def RunL (i0 : Int) (L : List EnR) : Prop := ∀ j, j < L.length → (rowE L j).2.1 = i0 + j + 1
theorem slF_all {a b : Int} {L : List EnR} (h : ∀ j, j < L.length → a ≤ (rowE L j).2.1 ∧ (rowE L j).2.1 ≤ b) : slF a b L L.length = L := by
  rw [slF_eq, List.take_length]
  refine List.filter_eq_self.2 fun e he => ?_
  obtain ⟨j, hj, rfl⟩ := List.mem_iff_getElem.1 he
  have := h j hj
  rw [rowE_is hj]
  unfold inS
  rw [decide_eq_true this.1, decide_eq_true this.2]
  rfl
theorem rowE_seg {L : List EnR} {lo len j : Nat} (h : lo + len ≤ L.length) (hj : j < len) : rowE (seg L lo len) j = rowE L (lo + j) := by
  have h1 : j < (seg L lo len).length := by rw [seg_length h]; exact hj
  rw [← rowE_is h1, ← rowE_is (show lo + j < L.length by omega)]
  have e : (seg L lo len)[j]? = L[lo + j]? := by
    unfold seg
    rw [List.getElem?_drop, List.getElem?_take, if_pos (by omega)]
  rw [List.getElem?_eq_getElem h1, List.getElem?_eq_getElem (show lo + j < L.length by omega)] at e
  exact Option.some.inj e
theorem run_seg {i0 : Int} {L : List EnR} {lo len : Nat} (h : lo + len ≤ L.length) (hr : RunL i0 L) : RunL (i0 + lo) (seg L lo len) := by
  intro j hj
  rw [seg_length h] at hj
  rw [rowE_seg h hj, hr _ (by omega)]
  omega
theorem ldT_mono (l : List Int) : ∀ i, ldT l i ≤ ldT l (i + 1) := fun i => by rw [ldT_succ]; split <;> omega
theorem ldT_le (l : List Int) : ∀ i j, i ≤ j → ldT l i ≤ ldT l j
  | i, 0, h => by rw [show i = 0 by omega]; exact Int.le_refl _
  | i, j + 1, h => by
    rcases Nat.lt_or_ge i (j + 1) with hlt | hge
    · exact Int.le_trans (ldT_le l i j (by omega)) (ldT_mono l j)
    · rw [show i = j + 1 by omega]; exact Int.le_refl _
theorem ld_run (l : List Int) (n : Nat) : RunL 0 (ldL l n) := fun j hj => by
  rw [ldL_len] at hj
  rw [ldL_get l n j hj]
  show (j : Int) + 1 = 0 + j + 1
  omega
noncomputable def trmL (l : List Int) (k : Nat) : Int := if k = 0 then 0 else ldT l k
theorem trmL_in (l : List Int) (k : Nat) : 0 ≤ trmL l k ∧ trmL l k ≤ 2 + 2 * k := by
  unfold trmL
  have := ldT_in l k
  split <;> omega
theorem ld_size (l : List Int) (i : Nat) : (ldE l i).2.2.size = 1 := by
  show (strOf [(Sym.rowAt [.int .u8] l i : Int)]).size = 1
  rw [strOf_size]; rfl
theorem ld_fol (l : List Int) (n lo len : Nat) (hn : n ≤ 40) (h : lo + len ≤ n) : folL lo (trmL l lo) (seg (ldL l n) lo len) = true := by
  have hl : lo + len ≤ (ldL l n).length := by rw [ldL_len]; exact h
  refine folL_ok fun j hj => ?_
  rw [seg_length hl] at hj
  have hrow : ∀ i, i < len → rowE (seg (ldL l n) lo len) i = ldE l (lo + i) := fun i hi => by rw [rowE_seg hl hi, ldL_get l n _ (by omega)]
  rw [hrow j hj]
  have hsz := ld_size l (lo + j)
  have hT := ldT_in l (lo + j + 1)
  cases j with
  | zero =>
    rw [aheadE_0]
    refine ⟨?_, ?_, ?_, ?_, by rw [hsz]; decide⟩
    · show ((lo + 0 : Nat) : Int) + 1 = ((lo : Int) + 1) % 18446744073709551616
      omega
    · show ((lo + 0 : Nat) : Int) + 1 ≤ 1099511627776
      omega
    · show trmL l lo ≤ ldT l (lo + 0 + 1)
      unfold trmL
      split
      · have := ldT_in l (lo + 0 + 1); omega
      · exact ldT_mono l lo
    · show ldT l (lo + 0 + 1) ≠ 0
      have := ldT_in l (lo + 0 + 1); omega
  | succ j =>
    rw [aheadE_succ, hrow j (by omega)]
    refine ⟨?_, ?_, ?_, ?_, by rw [hsz]; decide⟩
    · show ((lo + (j + 1) : Nat) : Int) + 1 = (((lo + j : Nat) : Int) + 1 + 1) % 18446744073709551616
      omega
    · show ((lo + (j + 1) : Nat) : Int) + 1 ≤ 1099511627776
      omega
    · show ldT l (lo + j + 1) ≤ ldT l (lo + (j + 1) + 1)
      exact ldT_le l _ _ (by omega)
    · show ldT l (lo + (j + 1) + 1) ≠ 0
      have := ldT_in l (lo + (j + 1) + 1); omega
theorem ld_term (l : List Int) (n c k : Nat) (hc : c ≤ k) (hk : k ≤ n) : termP c (trmL l c) (seg (ldL l n) c (n - c)) k = (trmL l k, true) := by
  have hl : c + (n - c) ≤ (ldL l n).length := by rw [ldL_len]; omega
  by_cases e : k = c
  · subst e; exact termP_0 _ _ _
  · rw [termP_at (by omega) (by rw [seg_length hl]; omega)]
    have e1 : ((k : Int) - c - 1).toNat = k - c - 1 := by omega
    rw [e1, rowE_seg hl (by omega), ldL_get l n _ (by omega)]
    show (ldT l (c + (k - c - 1) + 1), true) = _
    unfold trmL
    rw [if_neg (by omega), show c + (k - c - 1) + 1 = k by omega]
theorem ld_put (l : List Int) (n c lo len : Nat) (hn : n ≤ 40) (h : lo + len ≤ n) (hc : c ≤ n) : putB c (trmL l c) (seg (ldL l n) c (n - c)) lo (trmL l lo) (seg (ldL l n) lo len) = true := by
  have hl : lo + len ≤ (ldL l n).length := by rw [ldL_len]; exact h
  have hl2 : c + (n - c) ≤ (ldL l n).length := by rw [ldL_len]; omega
  have hrow : ∀ i, i < len → rowE (seg (ldL l n) lo len) i = ldE l (lo + i) := fun i hi => by rw [rowE_seg hl hi, ldL_get l n _ (by omega)]
  refine putB_ok ⟨by omega, by omega, ⟨by rw [seg_length hl2]; omega, by rw [seg_length hl]; omega⟩, fun j hj => ?_, ld_fol l n lo len hn h, ?_, fun j hj => ?_⟩
  · rw [seg_length hl] at hj
    rw [hrow j hj]
    show 0 ≤ ((lo + j : Nat) : Int) + 1 ∧ ((lo + j : Nat) : Int) + 1 < 18446744073709551616
    omega
  · rcases Nat.lt_or_ge lo c with hlt | hge
    · exact .inl (by omega)
    · have := ld_term l n c lo hge (by omega)
      exact .inr ⟨by rw [termI_eq, this], by rw [termV_eq, this]⟩
  · rw [seg_length hl] at hj
    rw [hrow j hj]
    have e : (ldE l (lo + j)).2.1 = ((lo + j + 1 : Nat) : Int) := by show ((lo + j : Nat) : Int) + 1 = _; omega
    rw [e]
    rcases Nat.lt_or_ge c (lo + j + 1) with hlt | hge
    · have := ld_term l n c (lo + j + 1) (by omega) (by omega)
      refine .inr ⟨by rw [termI_eq, this], ?_⟩
      rw [termV_eq, this]
      show trmL l (lo + j + 1) = ldT l (lo + j + 1)
      unfold trmL
      rw [if_neg (by omega)]
    · exact .inl (by omega)
theorem ld_last (l : List Int) (n lo len : Nat) (h : lo + len ≤ n) : lastP lo (seg (ldL l n) lo len) = ((lo + len : Nat) : Int) := by
  have hl : lo + len ≤ (ldL l n).length := by rw [ldL_len]; exact h
  by_cases e : len = 0
  · subst e; rw [lastP_0 (seg_length hl)]; omega
  · rw [lastP_1 (by rw [seg_length hl]; exact e), seg_length hl, rowE_seg hl (by omega), ldL_get l n _ (by omega)]
    show ((lo + (len - 1) : Nat) : Int) + 1 = _
    omega
theorem ld_sl (l : List Int) (n c : Nat) (hn : n ≤ 40) (hc : c ≤ n) (a b : Int) (ha : a ≤ 1) (hb : n ≤ b) : slF a b (seg (ldL l n) c (n - c)) (seg (ldL l n) c (n - c)).length = seg (ldL l n) c (n - c) := by
  have hl2 : c + (n - c) ≤ (ldL l n).length := by rw [ldL_len]; omega
  refine slF_all fun j hj => ?_
  rw [seg_length hl2] at hj
  rw [rowE_seg hl2 hj, ldL_get l n _ (by omega)]
  show a ≤ ((c + j : Nat) : Int) + 1 ∧ ((c + j : Nat) : Int) + 1 ≤ b
  omega
end Go.Proofs.Ytlkbmjdgfbciaaa
end

section
namespace Go.Proofs.Ytlkbmjdgfbciaaa
open Go.Sym
set_option linter.unusedVariables false
set_option linter.unusedSimpArgs false
set_option maxRecDepth 100000
set_option maxHeartbeats 4000000

structure LogOK (i0 t0 : Int) (L : List EnR) : Prop where
  hi : 0 ≤ i0 ∧ i0 ≤ 1099511627776
  ht : 0 ≤ t0 ∧ t0 < 18446744073709551616
  hl : L.length ≤ 1000000
  run : RunL i0 L
  top : i0 + L.length ≤ 1099511627776
  hw : ∀ j, j < L.length → 0 ≤ (rowE L j).1 ∧ (rowE L j).1 < 18446744073709551616
theorem fol_row {i0 t0 : Int} {L : List EnR} (h : folL i0 t0 L = true) : ∀ j, j < L.length → okE (aheadE i0 t0 L j) (rowE L j) := by
  rw [folL_eq] at h
  exact of_decide_eq_true h
theorem fol_run {i0 t0 : Int} {L : List EnR} (h : folL i0 t0 L = true) (hi : -1 ≤ i0 ∧ i0 < 18446744073709551615) : RunL i0 L := by
  have hr := fol_row h
  intro j
  induction j with
  | zero =>
    intro hj
    obtain ⟨e, _⟩ := hr 0 hj
    rw [aheadE_0] at e
    rw [e]
    show (i0 + 1) % 18446744073709551616 = i0 + ((0 : Nat) : Int) + 1
    omega
  | succ j ih =>
    intro hj
    obtain ⟨e, h2, _⟩ := hr (j + 1) hj
    obtain ⟨_, h3, _⟩ := hr j (by omega)
    have ih := ih (by omega)
    rw [aheadE_succ, ih] at e
    rw [ih] at h3
    rw [e]
    omega
theorem fol_top {i0 t0 : Int} {L : List EnR} (h : folL i0 t0 L = true) (hi : -1 ≤ i0 ∧ i0 ≤ 1099511627776) : i0 + L.length ≤ 1099511627776 := by
  rcases Nat.eq_zero_or_pos L.length with e | e
  · rw [e]; omega
  · obtain ⟨_, h2, _⟩ := fol_row h (L.length - 1) (by omega)
    rw [fol_run h (by omega) (L.length - 1) (by omega)] at h2
    omega
open Classical in
noncomputable def logB : Int → Int → List EnR → Bool := hide fun i0 t0 L => decide (LogOK i0 t0 L)
open Classical in
theorem logB_ok {i0 t0 : Int} {L : List EnR} (h : LogOK i0 t0 L) : logB i0 t0 L = true := by
  unfold logB
  rw [hide_eq]
  exact decide_eq_true h
open Classical in
theorem logB_of {i0 t0 : Int} {L : List EnR} (h : logB i0 t0 L = true) : LogOK i0 t0 L := by
  unfold logB at h
  rw [hide_eq] at h
  exact of_decide_eq_true h

noncomputable def hintI0 (i0 t0 : Int) (L : List EnR) (t : Int) : Nat → Int
  | 0 => i0
  | 1 => i0 + 1
  | k + 2 => if termV i0 t0 L (i0 + (k + 1 : Nat)) = t then hintI0 i0 t0 L t (k + 1) else i0 + (k + 2 : Nat)
noncomputable def hintI : Int → Int → List EnR → Int → Nat → Int := hide hintI0
theorem hintI_0 (i0 t0 : Int) (L : List EnR) (t : Int) : hintI i0 t0 L t 0 = i0 := by unfold hintI; rw [hide_eq]; rfl
theorem hintI_1 (i0 t0 : Int) (L : List EnR) (t : Int) : hintI i0 t0 L t 1 = i0 + 1 := by unfold hintI; rw [hide_eq]; rfl
theorem hintI_2 (i0 t0 : Int) (L : List EnR) (t : Int) (k : Nat) : hintI i0 t0 L t (k + 2) = if termV i0 t0 L (i0 + (k + 1 : Nat)) = t then hintI i0 t0 L t (k + 1) else i0 + (k + 2 : Nat) := by unfold hintI; rw [hide_eq]; rfl
theorem hintI_in (i0 t0 : Int) (L : List EnR) (t : Int) : ∀ k, i0 ≤ hintI i0 t0 L t k ∧ hintI i0 t0 L t k ≤ i0 + k
  | 0 => by rw [hintI_0]; omega
  | 1 => by rw [hintI_1]; omega
  | k + 2 => by
    have := hintI_in i0 t0 L t (k + 1)
    rw [hintI_2]
    split <;> omega
noncomputable def hintV : Int → Int → List EnR → Int → Int := hide fun i0 t0 L idx => if i0 + (L.length : Int) < idx then i0 + (L.length : Int) else max (hintI i0 t0 L (termV i0 t0 L idx) (idx - i0).toNat) (i0 + 1)
theorem hintV_hi {i0 t0 : Int} {L : List EnR} {idx : Int} (h : i0 + (L.length : Int) < idx) : hintV i0 t0 L idx = i0 + (L.length : Int) := by unfold hintV; rw [hide_eq]; exact if_pos h
theorem hintV_lo {i0 t0 : Int} {L : List EnR} {idx : Int} (h : ¬ i0 + (L.length : Int) < idx) : hintV i0 t0 L idx = max (hintI i0 t0 L (termV i0 t0 L idx) (idx - i0).toNat) (i0 + 1) := by unfold hintV; rw [hide_eq]; exact if_neg h
section
variable (i0 t0 : Int) (L : List EnR) (t : Int)
noncomputable def hnC (v : Int) : CD := ⟨52, [(0, .lptr logE [(i0, t0, L)] 0 0), (1, .int .u64 v), (7, .int .u64 t)], [], [], 0⟩
theorem hint_at (idx : Int) (h : LogOK i0 t0 L) (hx : i0 ≤ idx ∧ idx < 18446744073709551616) : PureAt Try.prog 51 [.lptr logE [(i0, t0, L)] 0 0, .int .u64 idx] (.int .u64 (hintV i0 t0 L idx)) := by
  have q1 : @Eq Int (Sym.rowAt logE [(i0, t0, L)] 0).1 i0 := rfl
  have q3 : List.length (α := rowDen entE) (Sym.rowAt logE [(i0, t0, L)] 0).2.2 = List.length (α := EnR) L := rfl
  have hi := h.hi
  have ht := h.ht
  have hl := h.hl
  have htop := h.top
  obtain ⟨K, hK⟩ : ∃ K : Nat, idx = i0 + K := ⟨(idx - i0).toNat, by omega⟩
  have hK2 : (idx - i0).toNat = K := by omega
  refine pure_of_loops tabR1_ok (fuel := 3) (d := 6) [⟨5, [], hnC i0 t0 L (termV i0 t0 L idx) idx, .leaf (.exit 0) (hnC i0 t0 L (termV i0 t0 L idx) (hintI i0 t0 L (termV i0 t0 L idx) K))⟩] (fun N l hl => ?_) ?_
  · rw [List.mem_singleton.1 hl]
    generalize termV i0 t0 L idx = t
    subst hK
    refine LpD.ok_one (b := bodyAt Try.prog 51 5) rfl (loop_W tabR1_ok (fuel := 3) (d := 5) (X := { k : Nat // k ≤ K ∧ hintI i0 t0 L t k = hintI i0 t0 L t K }) (fun x => hnC i0 t0 L t (i0 + x.1)) (fun x => x.1)
      (fun _ => .leaf (.exit 0) (hnC i0 t0 L t (hintI i0 t0 L t K))) (fun _ => noLpW) (fun _ => noLp) (fun _ => noLp_ad) (fun _ => noLp_ok _) ?_ ⟨K, Nat.le_refl _, rfl⟩)
    rintro ⟨k, hk, hI⟩
    dsimp only
    match k, hk, hI with
    | 0, hk, hI =>
      rw [hintI_0] at hI
      repeat' (conv => whnf
               first | (with_reducible first | exact True.intro | rfl | exact castL_self _ _ | refine iteB_n ?_ | refine iteB_ct ?_ | refine iteB_cf ?_ | refine iteB_bt ?_ | refine iteB_bf ?_ | refine iteB_tb ?_ | refine iteB_fb ?_) | ((with_reducible refine V.same_t ?_); exact rfl) | ((with_reducible refine andB_room ?_ ?_ ?_); (· kernel_rfl); (· (first | omega | (simp only [lens] <;> omega)))) | ((with_reducible first | refine andB_in ?_ ?_ | refine andB_d ?_ ?_ | refine andB_lt ?_ ?_ | refine andB_le ?_ ?_ | refine iteB_ltt ?_ ?_ | refine iteB_let ?_ ?_ | refine iteB_dt ?_ ?_); · (first | (with_reducible assumption) | (first | omega | (simp only [lens] <;> omega)))) | ((with_reducible first | refine iteB_ltf ?_ ?_ | refine iteB_lef ?_ ?_ | refine iteB_df ?_ ?_); · (first | (with_reducible assumption) | (first | omega | (simp only [lens] <;> omega)))) | ((with_reducible first | refine andB_i ?_ ?_ | refine iteB_t ?_ ?_); · (first | (with_reducible first | assumption | exact decide_eq_true rfl | exact sEq_self _) | ((with_reducible refine eqOK_i ?_); kernel_rfl))) | ((with_reducible refine iteB_f ?_ ?_); · (first | (with_reducible first | assumption | exact decide_eq_true rfl | exact sEq_self _) | ((with_reducible refine eqOK_i ?_); kernel_rfl))) | (with_reducible refine CD.wk_au ?_) | (with_reducible first | refine andB_in ?_ ?_ | refine andB_lt ?_ ?_ | refine andB_le ?_ ?_ | refine andB_d ?_ ?_ | refine andB_i ?_ ?_ | refine iteB_lts (fun hB => ?_) (fun hB => ?_) | refine iteB_les (fun hB => ?_) (fun hB => ?_) | refine iteB_ds (fun hB => ?_) (fun hB => ?_) | refine iteB_s (fun hB => ?_) (fun hB => ?_) | refine CD.wk_as ?_ | refine And.intro ?_ ?_))
      all_goals ((conv => whnf); (try dsimp only); (try simp only [Nat.succ_eq_add_one, Nat.le_eq, castL_self]); (try omega))
      all_goals (try (first | omega | (simp only [lens] <;> omega)))
      all_goals first
        | omega
        | trace_state
    | 1, hk, hI =>
      rw [hintI_1] at hI
      repeat' (conv => whnf
               first | (with_reducible first | exact True.intro | rfl | exact castL_self _ _ | refine iteB_n ?_ | refine iteB_ct ?_ | refine iteB_cf ?_ | refine iteB_bt ?_ | refine iteB_bf ?_ | refine iteB_tb ?_ | refine iteB_fb ?_) | ((with_reducible refine V.same_t ?_); exact rfl) | ((with_reducible refine andB_room ?_ ?_ ?_); (· kernel_rfl); (· (first | omega | (simp only [lens] <;> omega)))) | ((with_reducible first | refine andB_in ?_ ?_ | refine andB_d ?_ ?_ | refine andB_lt ?_ ?_ | refine andB_le ?_ ?_ | refine iteB_ltt ?_ ?_ | refine iteB_let ?_ ?_ | refine iteB_dt ?_ ?_); · (first | (with_reducible assumption) | (first | omega | (simp only [lens] <;> omega)))) | ((with_reducible first | refine iteB_ltf ?_ ?_ | refine iteB_lef ?_ ?_ | refine iteB_df ?_ ?_); · (first | (with_reducible assumption) | (first | omega | (simp only [lens] <;> omega)))) | ((with_reducible first | refine andB_i ?_ ?_ | refine iteB_t ?_ ?_); · (first | (with_reducible first | assumption | exact decide_eq_true rfl | exact sEq_self _) | ((with_reducible refine eqOK_i ?_); kernel_rfl))) | ((with_reducible refine iteB_f ?_ ?_); · (first | (with_reducible first | assumption | exact decide_eq_true rfl | exact sEq_self _) | ((with_reducible refine eqOK_i ?_); kernel_rfl))) | (with_reducible refine CD.wk_au ?_) | (with_reducible first | refine andB_in ?_ ?_ | refine andB_lt ?_ ?_ | refine andB_le ?_ ?_ | refine andB_d ?_ ?_ | refine andB_i ?_ ?_ | refine iteB_lts (fun hB => ?_) (fun hB => ?_) | refine iteB_les (fun hB => ?_) (fun hB => ?_) | refine iteB_ds (fun hB => ?_) (fun hB => ?_) | refine iteB_s (fun hB => ?_) (fun hB => ?_) | refine CD.wk_as ?_ | refine And.intro ?_ ?_))
      all_goals ((conv => whnf); (try dsimp only); (try simp only [Nat.succ_eq_add_one, Nat.le_eq, castL_self]); (try omega))
      all_goals (try (first | omega | (simp only [lens] <;> omega)))
      all_goals first
        | omega
        | trace_state
    | k + 2, hk, hI =>
      rw [hintI_2] at hI
      have e1 : (i0 + ((k + 2 : Nat) : Int) - 1) % 18446744073709551616 = i0 + ((k + 1 : Nat) : Int) := by omega
      by_cases hc : termV i0 t0 L (i0 + ((k + 1 : Nat) : Int)) = t
      · rw [if_pos hc] at hI
        have hc' : @Eq Int (termV i0 t0 L ((i0 + ((k + 2 : Nat) : Int) - 1) % 18446744073709551616)) t := by rw [e1]; exact hc
        repeat' (conv => whnf
                 first | (with_reducible first | exact True.intro | rfl | exact castL_self _ _ | refine iteB_n ?_ | refine iteB_ct ?_ | refine iteB_cf ?_ | refine iteB_bt ?_ | refine iteB_bf ?_ | refine iteB_tb ?_ | refine iteB_fb ?_) | ((with_reducible refine V.same_t ?_); exact rfl) | ((with_reducible refine andB_room ?_ ?_ ?_); (· kernel_rfl); (· (first | omega | (simp only [lens] <;> omega)))) | ((with_reducible first | refine andB_in ?_ ?_ | refine andB_d ?_ ?_ | refine andB_lt ?_ ?_ | refine andB_le ?_ ?_ | refine iteB_ltt ?_ ?_ | refine iteB_let ?_ ?_ | refine iteB_dt ?_ ?_); · (first | (with_reducible assumption) | (first | omega | (simp only [lens] <;> omega)))) | ((with_reducible first | refine iteB_ltf ?_ ?_ | refine iteB_lef ?_ ?_ | refine iteB_df ?_ ?_); · (first | (with_reducible assumption) | (first | omega | (simp only [lens] <;> omega)))) | ((with_reducible first | refine andB_i ?_ ?_ | refine iteB_t ?_ ?_); · (first | (with_reducible first | assumption | exact decide_eq_true rfl | exact sEq_self _) | ((with_reducible refine eqOK_i ?_); kernel_rfl))) | ((with_reducible refine iteB_f ?_ ?_); · (first | (with_reducible first | assumption | exact decide_eq_true rfl | exact sEq_self _) | ((with_reducible refine eqOK_i ?_); kernel_rfl))) | (refine ⟨⟨k + 1, by omega, hI⟩, ?_, rfl, ?_⟩) | (with_reducible refine CD.wk_au ?_) | (with_reducible first | refine andB_in ?_ ?_ | refine andB_lt ?_ ?_ | refine andB_le ?_ ?_ | refine andB_d ?_ ?_ | refine andB_i ?_ ?_ | refine iteB_lts (fun hB => ?_) (fun hB => ?_) | refine iteB_les (fun hB => ?_) (fun hB => ?_) | refine iteB_ds (fun hB => ?_) (fun hB => ?_) | refine iteB_s (fun hB => ?_) (fun hB => ?_) | refine CD.wk_as ?_ | refine And.intro ?_ ?_))
        all_goals ((conv => whnf); (try dsimp only); (try simp only [Nat.succ_eq_add_one, Nat.le_eq, castL_self]); (try omega))
        all_goals (try (first | omega | (simp only [lens] <;> omega)))
        all_goals first
          | omega
          | trace_state
      · rw [if_neg hc] at hI
        have hc' : ¬ @Eq Int (termV i0 t0 L ((i0 + ((k + 2 : Nat) : Int) - 1) % 18446744073709551616)) t := by rw [e1]; exact hc
        repeat' (conv => whnf
                 first | (with_reducible first | exact True.intro | rfl | exact castL_self _ _ | refine iteB_n ?_ | refine iteB_ct ?_ | refine iteB_cf ?_ | refine iteB_bt ?_ | refine iteB_bf ?_ | refine iteB_tb ?_ | refine iteB_fb ?_) | ((with_reducible refine V.same_t ?_); exact rfl) | ((with_reducible refine andB_room ?_ ?_ ?_); (· kernel_rfl); (· (first | omega | (simp only [lens] <;> omega)))) | ((with_reducible first | refine andB_in ?_ ?_ | refine andB_d ?_ ?_ | refine andB_lt ?_ ?_ | refine andB_le ?_ ?_ | refine iteB_ltt ?_ ?_ | refine iteB_let ?_ ?_ | refine iteB_dt ?_ ?_); · (first | (with_reducible assumption) | (first | omega | (simp only [lens] <;> omega)))) | ((with_reducible first | refine iteB_ltf ?_ ?_ | refine iteB_lef ?_ ?_ | refine iteB_df ?_ ?_); · (first | (with_reducible assumption) | (first | omega | (simp only [lens] <;> omega)))) | ((with_reducible first | refine andB_i ?_ ?_ | refine iteB_t ?_ ?_); · (first | (with_reducible first | assumption | exact decide_eq_true rfl | exact sEq_self _) | ((with_reducible refine eqOK_i ?_); kernel_rfl))) | ((with_reducible refine iteB_f ?_ ?_); · (first | (with_reducible first | assumption | exact decide_eq_true rfl | exact sEq_self _) | ((with_reducible refine eqOK_i ?_); kernel_rfl))) | (with_reducible refine CD.wk_au ?_) | (with_reducible first | refine andB_in ?_ ?_ | refine andB_lt ?_ ?_ | refine andB_le ?_ ?_ | refine andB_d ?_ ?_ | refine andB_i ?_ ?_ | refine iteB_lts (fun hB => ?_) (fun hB => ?_) | refine iteB_les (fun hB => ?_) (fun hB => ?_) | refine iteB_ds (fun hB => ?_) (fun hB => ?_) | refine iteB_s (fun hB => ?_) (fun hB => ?_) | refine CD.wk_as ?_ | refine And.intro ?_ ?_))
        all_goals ((conv => whnf); (try dsimp only); (try simp only [Nat.succ_eq_add_one, Nat.le_eq, castL_self]); (try omega))
        all_goals (try (first | omega | (simp only [lens] <;> omega)))
        all_goals first
          | omega
          | trace_state
  · have hin := hintI_in i0 t0 L (termV i0 t0 L idx) K
    have hmx : ∀ x : Int, maxI x (((Sym.rowAt logE [(i0, t0, L)] 0).1 + 1) % 18446744073709551616) = max x (i0 + 1) := fun x => by
      rw [maxI_eq]
      have : @Eq Int ((@HAdd.hAdd Int Int Int _ (Sym.rowAt logE [(i0, t0, L)] 0).1 1) % 18446744073709551616) (i0 + 1) := by omega
      exact congrArg (max x) this
    by_cases hlast : i0 + (L.length : Int) < idx
    · rw [hintV_hi hlast]
      rcases Nat.eq_zero_or_pos L.length with e | e
      · repeat' (conv => whnf
                 first | (with_reducible first | exact True.intro | rfl | exact castL_self _ _ | refine iteB_n ?_ | refine iteB_ct ?_ | refine iteB_cf ?_ | refine iteB_bt ?_ | refine iteB_bf ?_ | refine iteB_tb ?_ | refine iteB_fb ?_) | ((with_reducible refine V.same_t ?_); exact rfl) | ((with_reducible refine andB_room ?_ ?_ ?_); (· kernel_rfl); (· (first | omega | (simp only [lens] <;> omega)))) | ((with_reducible first | refine andB_in ?_ ?_ | refine andB_d ?_ ?_ | refine andB_lt ?_ ?_ | refine andB_le ?_ ?_ | refine iteB_ltt ?_ ?_ | refine iteB_let ?_ ?_ | refine iteB_dt ?_ ?_); · (first | (with_reducible assumption) | (first | omega | (simp only [lens] <;> omega)))) | ((with_reducible first | refine iteB_ltf ?_ ?_ | refine iteB_lef ?_ ?_ | refine iteB_df ?_ ?_); · (first | (with_reducible assumption) | (first | omega | (simp only [lens] <;> omega)))) | ((with_reducible first | refine andB_i ?_ ?_ | refine iteB_t ?_ ?_); · (first | (with_reducible first | assumption | exact decide_eq_true rfl | exact sEq_self _) | ((with_reducible refine eqOK_i ?_); kernel_rfl))) | ((with_reducible refine iteB_f ?_ ?_); · (first | (with_reducible first | assumption | exact decide_eq_true rfl | exact sEq_self _) | ((with_reducible refine eqOK_i ?_); kernel_rfl))) | (with_reducible refine CD.wk_au ?_) | (with_reducible first | refine andB_in ?_ ?_ | refine andB_lt ?_ ?_ | refine andB_le ?_ ?_ | refine andB_d ?_ ?_ | refine andB_i ?_ ?_ | refine iteB_lts (fun hB => ?_) (fun hB => ?_) | refine iteB_les (fun hB => ?_) (fun hB => ?_) | refine iteB_ds (fun hB => ?_) (fun hB => ?_) | refine iteB_s (fun hB => ?_) (fun hB => ?_) | refine CD.wk_as ?_ | refine And.intro ?_ ?_))
        all_goals ((conv => whnf); (try dsimp only); (try simp only [Nat.succ_eq_add_one, Nat.le_eq, castL_self]); (try omega))
        all_goals (try (first | omega | (simp only [lens] <;> omega)))
        all_goals first
          | omega
          | (rw [e]; show V.int .u64 i0 = _; congr 1; omega)
          | trace_state
      · have hlr : @Eq Int (Sym.rowAt entE (Sym.rowAt logE [(i0, t0, L)] 0).2.2 (((List.length (α := rowDen entE) (Sym.rowAt logE [(i0, t0, L)] 0).2.2 : Nat) : Int) - 1).toNat).2.1 (i0 + (L.length : Int)) := by
          show (rowE L (((L.length : Nat) : Int) - 1).toNat).2.1 = _
          rw [h.run _ (by omega)]; omega
        repeat' (conv => whnf
                 first | (with_reducible first | exact True.intro | rfl | exact castL_self _ _ | refine iteB_n ?_ | refine iteB_ct ?_ | refine iteB_cf ?_ | refine iteB_bt ?_ | refine iteB_bf ?_ | refine iteB_tb ?_ | refine iteB_fb ?_) | ((with_reducible refine V.same_t ?_); exact rfl) | ((with_reducible refine andB_room ?_ ?_ ?_); (· kernel_rfl); (· (first | omega | (simp only [lens] <;> omega)))) | ((with_reducible first | refine andB_in ?_ ?_ | refine andB_d ?_ ?_ | refine andB_lt ?_ ?_ | refine andB_le ?_ ?_ | refine iteB_ltt ?_ ?_ | refine iteB_let ?_ ?_ | refine iteB_dt ?_ ?_); · (first | (with_reducible assumption) | (first | omega | (simp only [lens] <;> omega)))) | ((with_reducible first | refine iteB_ltf ?_ ?_ | refine iteB_lef ?_ ?_ | refine iteB_df ?_ ?_); · (first | (with_reducible assumption) | (first | omega | (simp only [lens] <;> omega)))) | ((with_reducible first | refine andB_i ?_ ?_ | refine iteB_t ?_ ?_); · (first | (with_reducible first | assumption | exact decide_eq_true rfl | exact sEq_self _) | ((with_reducible refine eqOK_i ?_); kernel_rfl))) | ((with_reducible refine iteB_f ?_ ?_); · (first | (with_reducible first | assumption | exact decide_eq_true rfl | exact sEq_self _) | ((with_reducible refine eqOK_i ?_); kernel_rfl))) | (with_reducible refine CD.wk_au ?_) | (with_reducible first | refine andB_in ?_ ?_ | refine andB_lt ?_ ?_ | refine andB_le ?_ ?_ | refine andB_d ?_ ?_ | refine andB_i ?_ ?_ | refine iteB_lts (fun hB => ?_) (fun hB => ?_) | refine iteB_les (fun hB => ?_) (fun hB => ?_) | refine iteB_ds (fun hB => ?_) (fun hB => ?_) | refine iteB_s (fun hB => ?_) (fun hB => ?_) | refine CD.wk_as ?_ | refine And.intro ?_ ?_))
        all_goals ((conv => whnf); (try dsimp only); (try simp only [Nat.succ_eq_add_one, Nat.le_eq, castL_self]); (try omega))
        all_goals (try (first | omega | (simp only [lens] <;> omega)))
        all_goals first
          | omega
          | exact congrArg (V.int .u64) hlr
          | trace_state
    · rw [hintV_lo hlast, hK2]
      rcases Nat.eq_zero_or_pos L.length with e | e
      · repeat' (conv => whnf
                 first | (with_reducible first | exact True.intro | rfl | exact castL_self _ _ | refine iteB_n ?_ | refine iteB_ct ?_ | refine iteB_cf ?_ | refine iteB_bt ?_ | refine iteB_bf ?_ | refine iteB_tb ?_ | refine iteB_fb ?_) | ((with_reducible refine V.same_t ?_); exact rfl) | ((with_reducible refine andB_room ?_ ?_ ?_); (· kernel_rfl); (· (first | omega | (simp only [lens] <;> omega)))) | ((with_reducible first | refine andB_in ?_ ?_ | refine andB_d ?_ ?_ | refine andB_lt ?_ ?_ | refine andB_le ?_ ?_ | refine iteB_ltt ?_ ?_ | refine iteB_let ?_ ?_ | refine iteB_dt ?_ ?_); · (first | (with_reducible assumption) | (first | omega | (simp only [lens] <;> omega)))) | ((with_reducible first | refine iteB_ltf ?_ ?_ | refine iteB_lef ?_ ?_ | refine iteB_df ?_ ?_); · (first | (with_reducible assumption) | (first | omega | (simp only [lens] <;> omega)))) | ((with_reducible first | refine andB_i ?_ ?_ | refine iteB_t ?_ ?_); · (first | (with_reducible first | assumption | exact decide_eq_true rfl | exact sEq_self _) | ((with_reducible refine eqOK_i ?_); kernel_rfl))) | ((with_reducible refine iteB_f ?_ ?_); · (first | (with_reducible first | assumption | exact decide_eq_true rfl | exact sEq_self _) | ((with_reducible refine eqOK_i ?_); kernel_rfl))) | (with_reducible refine CD.wk_au ?_) | (with_reducible first | refine andB_in ?_ ?_ | refine andB_lt ?_ ?_ | refine andB_le ?_ ?_ | refine andB_d ?_ ?_ | refine andB_i ?_ ?_ | refine iteB_lts (fun hB => ?_) (fun hB => ?_) | refine iteB_les (fun hB => ?_) (fun hB => ?_) | refine iteB_ds (fun hB => ?_) (fun hB => ?_) | refine iteB_s (fun hB => ?_) (fun hB => ?_) | refine CD.wk_as ?_ | refine And.intro ?_ ?_))
        all_goals ((conv => whnf); (try dsimp only); (try simp only [Nat.succ_eq_add_one, Nat.le_eq, castL_self]); (try omega))
        all_goals (try (first | omega | (simp only [lens] <;> omega)))
        all_goals first
          | omega
          | exact congrArg (V.int .u64) (hmx _)
          | trace_state
      · have hlr : @Eq Int (Sym.rowAt entE (Sym.rowAt logE [(i0, t0, L)] 0).2.2 (((List.length (α := rowDen entE) (Sym.rowAt logE [(i0, t0, L)] 0).2.2 : Nat) : Int) - 1).toNat).2.1 (i0 + (L.length : Int)) := by
          show (rowE L (((L.length : Nat) : Int) - 1).toNat).2.1 = _
          rw [h.run _ (by omega)]; omega
        repeat' (conv => whnf
                 first | (with_reducible first | exact True.intro | rfl | exact castL_self _ _ | refine iteB_n ?_ | refine iteB_ct ?_ | refine iteB_cf ?_ | refine iteB_bt ?_ | refine iteB_bf ?_ | refine iteB_tb ?_ | refine iteB_fb ?_) | ((with_reducible refine V.same_t ?_); exact rfl) | ((with_reducible refine andB_room ?_ ?_ ?_); (· kernel_rfl); (· (first | omega | (simp only [lens] <;> omega)))) | ((with_reducible first | refine andB_in ?_ ?_ | refine andB_d ?_ ?_ | refine andB_lt ?_ ?_ | refine andB_le ?_ ?_ | refine iteB_ltt ?_ ?_ | refine iteB_let ?_ ?_ | refine iteB_dt ?_ ?_); · (first | (with_reducible assumption) | (first | omega | (simp only [lens] <;> omega)))) | ((with_reducible first | refine iteB_ltf ?_ ?_ | refine iteB_lef ?_ ?_ | refine iteB_df ?_ ?_); · (first | (with_reducible assumption) | (first | omega | (simp only [lens] <;> omega)))) | ((with_reducible first | refine andB_i ?_ ?_ | refine iteB_t ?_ ?_); · (first | (with_reducible first | assumption | exact decide_eq_true rfl | exact sEq_self _) | ((with_reducible refine eqOK_i ?_); kernel_rfl))) | ((with_reducible refine iteB_f ?_ ?_); · (first | (with_reducible first | assumption | exact decide_eq_true rfl | exact sEq_self _) | ((with_reducible refine eqOK_i ?_); kernel_rfl))) | (with_reducible refine CD.wk_au ?_) | (with_reducible first | refine andB_in ?_ ?_ | refine andB_lt ?_ ?_ | refine andB_le ?_ ?_ | refine andB_d ?_ ?_ | refine andB_i ?_ ?_ | refine iteB_lts (fun hB => ?_) (fun hB => ?_) | refine iteB_les (fun hB => ?_) (fun hB => ?_) | refine iteB_ds (fun hB => ?_) (fun hB => ?_) | refine iteB_s (fun hB => ?_) (fun hB => ?_) | refine CD.wk_as ?_ | refine And.intro ?_ ?_))
        all_goals ((conv => whnf); (try dsimp only); (try simp only [Nat.succ_eq_add_one, Nat.le_eq, castL_self]); (try omega))
        all_goals (try (first | omega | (simp only [lens] <;> omega)))
        all_goals first
          | omega
          | exact congrArg (V.int .u64) (hmx _)
          | trace_state
end
end Go.Proofs.Ytlkbmjdgfbciaaa
end

section
namespace Go.Sym
open Go.RowKit (Below)
set_option linter.unusedSimpArgs false
set_option linter.unusedVariables false

noncomputable section
mutual
def renV (f : Nat → Option Nat) : V → Option V
  | .ptr b o => (match f b with
    | some b' => some (.ptr b' o)
    | none => none)
  | .rptr b i j es => (match f b with
    | some b' => some (.rptr b' i j es)
    | none => none)
  | .sl b o len cap x es => (match f b with
    | some b' => some (.sl b' o len cap x es)
    | none => none)
  | .rs b lo len cap x es => (match f b with
    | some b' => some (.rs b' lo len cap x es)
    | none => none)
  | .map b => (match f b with
    | some b' => some (.map b')
    | none => none)
  | .yld b => (match f b with
    | some b' => some (.yld b')
    | none => none)
  | .fn g a c => (match renL f a, renL f c with
    | some a', some c' => some (.fn g a' c')
    | _, _ => none)
  | .iface t v => (match renV f v with
    | some v' => some (.iface t v')
    | none => none)
  | .agg l => (match renL f l with
    | some l' => some (.agg l')
    | none => none)
  | .tup l => (match renL f l with
    | some l' => some (.tup l')
    | none => none)
  | .undef => some .undef
  | .any => some .any
  | .bool b => some (.bool b)
  | .int k n => some (.int k n)
  | .str s => some (.str s)
  | .nilp => some .nilp
  | .nils => some .nils
  | .nilm => some .nilm
  | .nilf => some .nilf
  | .nili => some .nili
  | .lptr e L i j => some (.lptr e L i j)
  | .lst e L cl => some (.lst e L cl)
  | .arr e L => some (.arr e L)
def renL (f : Nat → Option Nat) : List V → Option (List V)
  | [] => some []
  | v :: l => (match renV f v, renL f l with
    | some v', some l' => some (v' :: l')
    | _, _ => none)
end
def renM (f : Nat → Option Nat) : List (V × V × Nat) → Option (List (V × V × Nat))
  | [] => some []
  | e :: l => (match renV f e.1, renV f e.2.1, renM f l with
    | some a, some b, some l' => some ((a, b, e.2.2) :: l')
    | _, _, _ => none)
def renO (f : Nat → Option Nat) : EObj → Option EObj
  | .cells cs t h => (match renL f cs with
    | some cs' => some (.cells cs' t h)
    | none => none)
  | .map es c => (match renM f es with
    | some es' => some (.map es' c)
    | none => none)
  | .rows e L t h => some (.rows e L t h)
  | .pm k t M c => some (.pm k t M c)
  | .dfr s => some (.dfr s)
  | .loop _ => none
end
def RenOK (f : Nat → Option Nat) (ρ ρ' : Env) : Prop := (∀ b b', f b = some b' → ∀ x, ρ b = some x → ρ' b' = some x) ∧ subφ ρ.φ ρ'.φ
section
variable {f : Nat → Option Nat} {ρ ρ' : Env}
mutual
theorem renV_rel (h : RenOK f ρ ρ') : ∀ (v v' : V) (X : Value), renV f v = some v' → VRel ρ v X → VRel ρ' v' X
  | .ptr b o, v', X, hr, r => by
    rw [renV.eq_def] at hr; simp only at hr
    split at hr
    · rename_i b' hb
      cases hr
      simp only [VRel] at r ⊢
      obtain ⟨B, O, S, h1, h2⟩ := r
      exact ⟨B, O, S, h.1 _ _ hb _ h1, h2⟩
    · cases hr
  | .rptr b i j es, v', X, hr, r => by
    rw [renV.eq_def] at hr; simp only at hr
    split at hr
    · rename_i b' hb
      cases hr
      simp only [VRel] at r ⊢
      obtain ⟨B, O, S, h1, h2⟩ := r
      exact ⟨B, O, S, h.1 _ _ hb _ h1, h2⟩
    · cases hr
  | .sl b o len cap x es, v', X, hr, r => by
    rw [renV.eq_def] at hr; simp only at hr
    split at hr
    · rename_i b' hb
      cases hr
      simp only [VRel] at r ⊢
      obtain ⟨B, O, S, c, h1, h2⟩ := r
      exact ⟨B, O, S, c, h.1 _ _ hb _ h1, h2⟩
    · cases hr
  | .rs b lo len cap x es, v', X, hr, r => by
    rw [renV.eq_def] at hr; simp only at hr
    split at hr
    · rename_i b' hb
      cases hr
      simp only [VRel] at r ⊢
      obtain ⟨a, c, h1, h2, h3, h4, h6, h5⟩ := r
      exact ⟨a, c, h1, h2, h3, h4, h6, fun hp => let ⟨B, O, S, g1, g2⟩ := h5 hp; ⟨B, O, S, h.1 _ _ hb _ g1, g2⟩⟩
    · cases hr
  | .map b, v', X, hr, r => by
    rw [renV.eq_def] at hr; simp only at hr
    split at hr
    · rename_i b' hb
      cases hr
      simp only [VRel] at r ⊢
      obtain ⟨B, O, S, h1, h2⟩ := r
      exact ⟨B, O, S, h.1 _ _ hb _ h1, h2⟩
    · cases hr
  | .yld b, v', X, hr, r => by
    rw [renV.eq_def] at hr; simp only at hr
    split at hr
    · rename_i b' hb
      cases hr
      simp only [VRel] at r ⊢
      obtain ⟨B, O, S, h1, h2⟩ := r
      exact ⟨B, O, S, h.1 _ _ hb _ h1, h2⟩
    · cases hr
  | .fn g a c, v', X, hr, r => by
    rw [renV.eq_def] at hr; simp only at hr
    split at hr
    · rename_i a' c' ha hc
      cases hr
      simp only [VRel] at r ⊢
      obtain ⟨A, C, h1, h2, h3⟩ := r
      exact ⟨A, C, h1, renL_rel h a _ _ ha h2, renL_rel h c _ _ hc h3⟩
    · cases hr
  | .iface t v, v', X, hr, r => by
    rw [renV.eq_def] at hr; simp only at hr
    split at hr
    · rename_i u hu
      cases hr
      simp only [VRel] at r ⊢
      obtain ⟨Y, h1, h2⟩ := r
      exact ⟨Y, h1, renV_rel h v _ _ hu h2⟩
    · cases hr
  | .agg l, v', X, hr, r => by
    rw [renV.eq_def] at hr; simp only at hr
    split at hr
    · rename_i u hu
      cases hr
      simp only [VRel] at r ⊢
      obtain ⟨Y, h1, h2⟩ := r
      exact ⟨Y, h1, renL_rel h l _ _ hu h2⟩
    · cases hr
  | .tup l, v', X, hr, r => by
    rw [renV.eq_def] at hr; simp only at hr
    split at hr
    · rename_i u hu
      cases hr
      simp only [VRel] at r ⊢
      obtain ⟨Y, h1, h2⟩ := r
      exact ⟨Y, h1, renL_rel h l _ _ hu h2⟩
    · cases hr
  | .undef, v', X, hr, r => by rw [renV.eq_def] at hr; cases hr; simpa only [VRel] using r
  | .any, v', X, hr, r => by rw [renV.eq_def] at hr; cases hr; simp only [VRel]
  | .bool b, v', X, hr, r => by rw [renV.eq_def] at hr; cases hr; simpa only [VRel] using r
  | .int k n, v', X, hr, r => by rw [renV.eq_def] at hr; cases hr; simpa only [VRel] using r
  | .str s, v', X, hr, r => by rw [renV.eq_def] at hr; cases hr; simpa only [VRel] using r
  | .nilp, v', X, hr, r => by rw [renV.eq_def] at hr; cases hr; simpa only [VRel] using r
  | .nils, v', X, hr, r => by rw [renV.eq_def] at hr; cases hr; simpa only [VRel] using r
  | .nilm, v', X, hr, r => by rw [renV.eq_def] at hr; cases hr; simpa only [VRel] using r
  | .nilf, v', X, hr, r => by rw [renV.eq_def] at hr; cases hr; simpa only [VRel] using r
  | .nili, v', X, hr, r => by rw [renV.eq_def] at hr; cases hr; simpa only [VRel] using r
  | .lptr e L i j, v', X, hr, r => by
    rw [renV.eq_def] at hr; cases hr
    exact VRel.bare h.2 (.lptr e L i j) X rfl r
  | .lst e L cl, v', X, hr, r => by
    rw [renV.eq_def] at hr; cases hr
    exact VRel.bare h.2 (.lst e L cl) X rfl r
  | .arr e L, v', X, hr, r => by
    rw [renV.eq_def] at hr; cases hr
    exact VRel.bare h.2 (.arr e L) X rfl r
theorem renL_rel (h : RenOK f ρ ρ') : ∀ (l l' : List V) (X : List Value), renL f l = some l' → LRel ρ l X → LRel ρ' l' X
  | [], l', X, hr, r => by rw [renL.eq_def] at hr; cases hr; exact r
  | v :: l, l', X, hr, r => by
    rw [renL.eq_def] at hr; simp only at hr
    split at hr
    · rename_i v1 l1 h1 h2
      cases hr
      obtain ⟨Y, Z, g1, g2, g3⟩ := r
      exact ⟨Y, Z, g1, renV_rel h v _ _ h1 g2, renL_rel h l _ _ h2 g3⟩
    · cases hr
end
theorem renL_length : ∀ (l l' : List V), renL f l = some l' → l'.length = l.length
  | [], l', h => by rw [renL.eq_def] at h; cases h; rfl
  | v :: l, l', h => by
    rw [renL.eq_def] at h; simp only at h
    split at h
    · rename_i v1 l1 h1 h2
      cases h
      simp [renL_length l _ h2]
    · cases h
theorem renL_get : ∀ (l l' : List V), renL f l = some l' → ∀ (i : Nat) v', l'[i]? = some v' → ∃ v, l[i]? = some v ∧ renV f v = some v'
  | [], l', h, i, v', hi => by rw [renL.eq_def] at h; cases h; simp at hi
  | v :: l, l', h, i, v', hi => by
    rw [renL.eq_def] at h; simp only at h
    split at h
    · rename_i v1 l1 h1 h2
      cases h
      cases i with
      | zero => simp at hi; subst hi; exact ⟨v, rfl, h1⟩
      | succ i =>
        obtain ⟨u, g1, g2⟩ := renL_get l _ h2 i v' (by simpa using hi)
        exact ⟨u, by simpa using g1, g2⟩
    · cases h
theorem renM_rel (h : RenOK f ρ ρ') : ∀ (l l' : List (V × V × Nat)) (E : List MapEntry), renM f l = some l' → MRel ρ l E → MRel ρ' l' E
  | [], l', E, hr, r => by rw [renM] at hr; cases hr; exact r
  | e :: l, l', E, hr, r => by
    rw [renM] at hr
    split at hr
    · rename_i a b l1 h1 h2 h3
      cases hr
      obtain ⟨x, y, g1, g2, g3, g4, g5⟩ := r
      exact ⟨x, y, g1, renV_rel h _ _ _ h1 g2, renV_rel h _ _ _ h2 g3, g4, renM_rel h l _ _ h3 g5⟩
    · cases hr
theorem renO_rel (h : RenOK f ρ ρ') {o o' : EObj} {O S : Nat} {X : Option Obj} (hr : renO f o = some o') (r : ORel ρ O S X o) : ORel ρ' O S X o' := by
  cases o with
  | cells cs t ish =>
    rw [renO] at hr
    split at hr
    · rename_i cs' hcs
      cases hr
      obtain ⟨C, t', fr, q1, q2, q3, q4, q5, q6⟩ := r
      refine ⟨C, t', fr, q1, q2, by rw [renL_length _ _ hcs]; exact q3, fun i v' hi => ?_, q5, q6⟩
      obtain ⟨v, g1, g2⟩ := renL_get _ _ hcs i v' hi
      obtain ⟨W, g3, g4⟩ := q4 i v g1
      exact ⟨W, g3, renV_rel h _ _ _ g2 g4⟩
    · cases hr
  | map es c =>
    rw [renO] at hr
    split at hr
    · rename_i es' hes
      cases hr
      obtain ⟨E, h1, h2⟩ := r
      exact ⟨E, h1, renM_rel h _ _ _ hes h2⟩
    · cases hr
  | rows e L t ish =>
    rw [renO] at hr; cases hr
    obtain ⟨C, t', fr, q1, q2, q3, q4, q5, q6⟩ := r
    exact ⟨C, t', fr, q1, q2, q3, q4.mono h.2 fun _ _ hv => hv, q5, q6⟩
  | pm k t M c =>
    rw [renO] at hr; cases hr
    obtain ⟨E, h1, h2⟩ := r
    exact ⟨E, h1, MRel.plain h.2 h2⟩
  | dfr s => rw [renO] at hr; cases hr; exact r
  | loop r => rw [renO] at hr; cases hr
end

noncomputable section
def putsT (t : T EObj) : List (Nat × EObj) → T EObj
  | [] => t
  | e :: l => (putsT t l).set e.1 (some e.2)
def delsT (t : T EObj) : List Nat → T EObj
  | [] => t
  | b :: l => (delsT t l).set b none
def renH (f : Nat → Option Nat) : List (Nat × EObj) → Option (List (Nat × EObj))
  | [] => some []
  | e :: l => (match f e.1, renO f e.2, renH f l with
    | some b, some o, some l' => some ((b, o) :: l')
    | _, _, _ => none)
def idxO : Nat → List EObj → List (Nat × EObj)
  | _, [] => []
  | i, o :: l => (i, o) :: idxO (i + 1) l
end
theorem delsT_get {t : T EObj} : ∀ {l : List Nat} {b : Nat} {o : EObj}, (delsT t l).get b = some o → t.get b = some o ∧ b ∉ l
  | [], b, o, h => ⟨h, by simp⟩
  | c :: l, b, o, h => by
    rw [delsT, T.get_set] at h
    split at h
    · cases h
    · rename_i hne
      obtain ⟨h1, h2⟩ := delsT_get h
      refine ⟨h1, fun hm => ?_⟩
      rcases List.mem_cons.1 hm with e | e
      · exact hne e
      · exact h2 e
theorem putsT_get {f : Nat → Option Nat} {t : T EObj} : ∀ {l l' : List (Nat × EObj)}, renH f l = some l' → ∀ {a : Nat} {o : EObj}, (putsT t l').get a = some o →
    (∃ b o', f b = some a ∧ (heapOf l).get b = some o' ∧ renO f o' = some o) ∨ t.get a = some o
  | [], l', hr, a, o, h => by rw [renH] at hr; cases hr; exact .inr h
  | e :: l, l', hr, a, o, h => by
    rw [renH] at hr
    split at hr
    · rename_i b o1 l1 h1 h2 h3
      cases hr
      rw [putsT, T.get_set] at h
      split at h
      · rename_i he
        have he : a = b := he
        cases h
        refine .inl ⟨e.1, e.2, by rw [he]; exact h1, ?_, h2⟩
        rw [heapOf, T.get_set, if_pos rfl]
      · rename_i hne
        rcases putsT_get h3 h with ⟨b', o', g1, g2, g3⟩ | g
        · refine .inl ⟨b', o', g1, ?_, g3⟩
          rw [heapOf, T.get_set, if_neg]
          · exact g2
          · rintro rfl
            rw [h1] at g1; cases g1
            exact hne rfl
        · exact .inr g
    · cases hr
theorem idxO_get : ∀ {l : List EObj} {j b : Nat} {o : EObj}, (heapOf (idxO j l)).get b = some o → j ≤ b ∧ l[b - j]? = some o
  | [], j, b, o, h => by rw [idxO, heapOf, T.get_leaf] at h; cases h
  | a :: l, j, b, o, h => by
    rw [idxO, heapOf, T.get_set] at h
    split at h
    · rename_i e
      have e : b = j := e
      cases h
      subst e
      exact ⟨Nat.le_refl _, by rw [Nat.sub_self]; rfl⟩
    · obtain ⟨h1, h2⟩ := idxO_get h
      refine ⟨by omega, ?_⟩
      rw [show b - j = (b - (j + 1)) + 1 by omega, List.getElem?_cons_succ]
      exact h2

noncomputable section
section
variable (b : Nat) (e : List Ty) (L : List (rowDen e))
mutual
def fzV : V → V
  | .rs b' lo len cap x es => bif Nat.beq b' b && Nat.beq es (llen e) then .lst e (seg L lo len) false else .rs b' lo len cap x es
  | .iface t v => .iface t (fzV v)
  | .agg l => .agg (fzL l)
  | .tup l => .tup (fzL l)
  | .fn g a c => .fn g (fzL a) (fzL c)
  | .ptr b' o => .ptr b' o
  | .rptr b' i j es => .rptr b' i j es
  | .sl b' o len cap x es => .sl b' o len cap x es
  | .map b' => .map b'
  | .yld b' => .yld b'
  | .undef => .undef
  | .any => .any
  | .bool x => .bool x
  | .int k n => .int k n
  | .str s => .str s
  | .nilp => .nilp
  | .nils => .nils
  | .nilm => .nilm
  | .nilf => .nilf
  | .nili => .nili
  | .lptr e L i j => .lptr e L i j
  | .lst e L cl => .lst e L cl
  | .arr e L => .arr e L
def fzL : List V → List V
  | [] => []
  | v :: l => fzV v :: fzL l
end
mutual
def fzKV : V → List Bool
  | .rs b' lo len cap x es => bif Nat.beq b' b && Nat.beq es (llen e) then [decide (lo + len ≤ L.length)] else []
  | .iface t v => fzKV v
  | .agg l => fzKL l
  | .tup l => fzKL l
  | .fn g a c => lapp (fzKL a) (fzKL c)
  | _ => []
def fzKL : List V → List Bool
  | [] => []
  | v :: l => lapp (fzKV v) (fzKL l)
end
def fzM : List (V × V × Nat) → List (V × V × Nat)
  | [] => []
  | m :: l => (fzV b e L m.1, fzV b e L m.2.1, m.2.2) :: fzM l
def fzKM : List (V × V × Nat) → List Bool
  | [] => []
  | m :: l => lapp (fzKV b e L m.1) (lapp (fzKV b e L m.2.1) (fzKM l))
def fzO : EObj → EObj
  | .cells cs t h => .cells (fzL b e L cs) t h
  | .map es c => .map (fzM b e L es) c
  | .rows e' L' t h => .rows e' L' t h
  | .pm k t M c => .pm k t M c
  | .dfr s => .dfr s
  | .loop r => .loop r
def fzKO : EObj → List Bool
  | .cells cs t h => fzKL b e L cs
  | .map es c => fzKM b e L es
  | _ => []
def fzOo : Option EObj → Option EObj
  | some o => some (fzO b e L o)
  | none => none
def fzKOo : Option EObj → List Bool
  | some o => fzKO b e L o
  | none => []
def fzT : T EObj → T EObj
  | .leaf => .leaf
  | .node v l r => .node (fzOo b e L v) (fzT l) (fzT r)
def fzKT : T EObj → List Bool
  | .leaf => []
  | .node v l r => lapp (fzKOo b e L v) (lapp (fzKT l) (fzKT r))
end
end

section
variable {own : Own} {ρ ρ' : Env} {b : Nat} {e : List Ty} {L : List (rowDen e)}
def FzOK (ρ ρ' : Env) (b : Nat) (e : List Ty) (L : List (rowDen e)) : Prop := ρ.sub ρ' ∧ ∀ x, ρ b = some x → RowsAt ρ'.φ e L (fun k => ρ'.φ x.B (x.O + k))
mutual
theorem fzV_rel (h : FzOK ρ ρ' b e L) : ∀ (v : V) (X : Value), allB (fzKV b e L v) → VRel ρ v X → VRel ρ' (fzV b e L v) X
  | .rs b' lo len cap x es, X, hk, r => by
    rw [fzV.eq_def]
    rw [fzKV.eq_def] at hk
    simp only at hk ⊢
    cases hb : (Nat.beq b' b && Nat.beq es (llen e)) with
    | false => rw [cond_false]; exact VRel.up h.1 _ _ r
    | true =>
      rw [hb, cond_true] at hk
      rw [cond_true]
      rw [Bool.and_eq_true] at hb
      have h1 := Nat.eq_of_beq_eq_true hb.1
      have h2 := Nat.eq_of_beq_eq_true hb.2
      rw [llen_eq] at h2
      subst h1; subst h2
      have hle : lo + len ≤ L.length := of_decide_eq_true hk.1
      have hl := seg_length hle
      simp only [VRel] at r ⊢
      obtain ⟨a, c', h1, h2, h3, h4, h5, h6⟩ := r
      refine ⟨a, c', by rw [hl]; exact h1, by rw [hl]; omega, fun hh => (by cases hh), h5, fun hp => ?_⟩
      rw [hl] at hp
      obtain ⟨B, O, S, g1, g2, g3⟩ := h6 (by omega)
      have hr := rows_seg hle (h.2 _ g1)
      refine ⟨B, _, g2, hr.mono (fun _ _ _ hv => hv) fun j u hu => ?_⟩
      rw [Nat.add_assoc]
      exact hu
  | .iface t v, X, hk, r => by
    rw [fzV.eq_def]
    rw [fzKV.eq_def] at hk
    simp only [VRel] at hk r ⊢
    obtain ⟨Y, h1, h2⟩ := r
    exact ⟨Y, h1, fzV_rel h v Y hk h2⟩
  | .agg l, X, hk, r => by
    rw [fzV.eq_def]
    rw [fzKV.eq_def] at hk
    simp only [VRel] at hk r ⊢
    obtain ⟨Y, h1, h2⟩ := r
    exact ⟨Y, h1, fzL_rel h l _ hk h2⟩
  | .tup l, X, hk, r => by
    rw [fzV.eq_def]
    rw [fzKV.eq_def] at hk
    simp only [VRel] at hk r ⊢
    obtain ⟨Y, h1, h2⟩ := r
    exact ⟨Y, h1, fzL_rel h l _ hk h2⟩
  | .fn g a c, X, hk, r => by
    rw [fzV.eq_def]
    rw [fzKV.eq_def] at hk
    simp only [VRel, lapp_eq, allB_append] at hk r ⊢
    obtain ⟨A, C, h1, h2, h3⟩ := r
    exact ⟨A, C, h1, fzL_rel h a _ hk.1 h2, fzL_rel h c _ hk.2 h3⟩
  | .ptr b' o, X, _, r => by rw [fzV.eq_def]; exact VRel.up h.1 _ _ r
  | .rptr b' i j es, X, _, r => by rw [fzV.eq_def]; exact VRel.up h.1 _ _ r
  | .sl b' o len cap x es, X, _, r => by rw [fzV.eq_def]; exact VRel.up h.1 _ _ r
  | .map b', X, _, r => by rw [fzV.eq_def]; exact VRel.up h.1 _ _ r
  | .yld b', X, _, r => by rw [fzV.eq_def]; exact VRel.up h.1 _ _ r
  | .undef, X, _, r => by rw [fzV.eq_def]; exact VRel.up h.1 _ _ r
  | .any, X, _, r => by rw [fzV.eq_def]; exact VRel.up h.1 _ _ r
  | .bool x, X, _, r => by rw [fzV.eq_def]; exact VRel.up h.1 _ _ r
  | .int k n, X, _, r => by rw [fzV.eq_def]; exact VRel.up h.1 _ _ r
  | .str s, X, _, r => by rw [fzV.eq_def]; exact VRel.up h.1 _ _ r
  | .nilp, X, _, r => by rw [fzV.eq_def]; exact VRel.up h.1 _ _ r
  | .nils, X, _, r => by rw [fzV.eq_def]; exact VRel.up h.1 _ _ r
  | .nilm, X, _, r => by rw [fzV.eq_def]; exact VRel.up h.1 _ _ r
  | .nilf, X, _, r => by rw [fzV.eq_def]; exact VRel.up h.1 _ _ r
  | .nili, X, _, r => by rw [fzV.eq_def]; exact VRel.up h.1 _ _ r
  | .lptr e' L' i j, X, _, r => by rw [fzV.eq_def]; exact VRel.up h.1 _ _ r
  | .lst e' L' cl, X, _, r => by rw [fzV.eq_def]; exact VRel.up h.1 _ _ r
  | .arr e' L', X, _, r => by rw [fzV.eq_def]; exact VRel.up h.1 _ _ r
theorem fzL_rel (h : FzOK ρ ρ' b e L) : ∀ (l : List V) (X : List Value), allB (fzKL b e L l) → LRel ρ l X → LRel ρ' (fzL b e L l) X
  | [], X, _, r => by rw [fzL.eq_def]; exact r
  | v :: l, X, hk, r => by
    rw [fzL.eq_def]
    rw [fzKL.eq_def] at hk
    simp only [lapp_eq, allB_append] at hk ⊢
    obtain ⟨Y, Z, g1, g2, g3⟩ := r
    exact ⟨Y, Z, g1, fzV_rel h v _ hk.1 g2, fzL_rel h l _ hk.2 g3⟩
end
theorem fzL_get : ∀ (l : List V) (i : Nat) (v' : V), (fzL b e L l)[i]? = some v' → ∃ v, l[i]? = some v ∧ v' = fzV b e L v
  | [], i, v', h => by rw [fzL.eq_def] at h; simp at h
  | v :: l, i, v', h => by
    rw [fzL.eq_def] at h
    cases i with
    | zero => simp at h; exact ⟨v, rfl, h.symm⟩
    | succ i => exact (fzL_get l i v' (by simpa using h)).imp fun u hu => by simpa using hu
theorem fzL_len : ∀ l : List V, (fzL b e L l).length = l.length
  | [] => by rw [fzL.eq_def]
  | v :: l => by rw [fzL.eq_def]; simp [fzL_len l]
theorem fzKL_get : ∀ (l : List V), allB (fzKL b e L l) → ∀ (i : Nat) (v : V), l[i]? = some v → allB (fzKV b e L v)
  | [], _, i, v, h => by simp at h
  | u :: l, hk, i, v, h => by
    rw [fzKL.eq_def] at hk
    simp only [lapp_eq, allB_append] at hk
    cases i with
    | zero => simp at h; subst h; exact hk.1
    | succ i => exact fzKL_get l hk.2 i v (by simpa using h)
theorem fzM_rel (h : FzOK ρ ρ' b e L) : ∀ (l : List (V × V × Nat)) (E : List MapEntry), allB (fzKM b e L l) → MRel ρ l E → MRel ρ' (fzM b e L l) E
  | [], E, _, r => by rw [fzM]; exact r
  | m :: l, E, hk, r => by
    rw [fzM]
    rw [fzKM, lapp_eq, lapp_eq, allB_append, allB_append] at hk
    obtain ⟨x, y, g1, g2, g3, g4, g5⟩ := r
    exact ⟨x, y, g1, fzV_rel h _ _ hk.1 g2, fzV_rel h _ _ hk.2.1 g3, g4, fzM_rel h l _ hk.2.2 g5⟩
theorem fzO_rel (h : FzOK ρ ρ' b e L) {o : EObj} {O S : Nat} {X : Option Obj} (hk : allB (fzKO b e L o)) (r : ORel ρ O S X o) : ORel ρ' O S X (fzO b e L o) := by
  cases o with
  | cells cs t ish =>
    obtain ⟨C, t', fr, q1, q2, q3, q4, q5, q6⟩ := r
    refine ⟨C, t', fr, q1, q2, by rw [fzL_len]; exact q3, fun i v' hi => ?_, q5, q6⟩
    obtain ⟨v, g1, rfl⟩ := fzL_get _ _ _ hi
    obtain ⟨W, g3, g4⟩ := q4 i v g1
    exact ⟨W, g3, fzV_rel h _ _ (fzKL_get cs hk i v g1) g4⟩
  | map es c =>
    obtain ⟨E, h1, h2⟩ := r
    exact ⟨E, h1, fzM_rel h _ _ hk h2⟩
  | rows e' L' t ish => exact r.up h.1
  | pm k t M c => exact r.up h.1
  | dfr s => exact r
  | loop r' => exact r.up h.1
theorem fzT_get : ∀ (t : T EObj) (a : Nat), (fzT b e L t).get a = fzOo b e L (t.get a)
  | .leaf, a => by rw [fzT, T.get_leaf]; rfl
  | .node v l r, 0 => by rw [fzT, T.get_zero, T.get_zero]
  | .node v l r, a + 1 => by
    rw [fzT, T.get_succ, T.get_succ]
    cases Nat.beq (a % 2) 0
    · exact fzT_get r _
    · exact fzT_get l _
theorem fzKT_get : ∀ (t : T EObj) (a : Nat), allB (fzKT b e L t) → allB (fzKOo b e L (t.get a))
  | .leaf, a, _ => by rw [T.get_leaf]; trivial
  | .node v l r, 0, h => by
    rw [fzKT, lapp_eq, allB_append] at h
    rw [T.get_zero]; exact h.1
  | .node v l r, a + 1, h => by
    rw [fzKT, lapp_eq, allB_append, lapp_eq, allB_append] at h
    rw [T.get_succ]
    cases Nat.beq (a % 2) 0
    · exact fzKT_get r _ h.2.2
    · exact fzKT_get l _ h.2.1
end
noncomputable def fzS (b : Nat) (e : List Ty) (L : List (rowDen e)) (s : St) : St := ⟨(fzT b e L s.heap).set b none, s.next⟩
theorem fz_ok {own : Own} {ρ : Env} {s : St} {w : World} {b : Nat} {e : List Ty} {L : List (rowDen e)} {t : TypeId} {ish : Bool} (hS : SRel own ρ s w) (hb : s.heap.get b = some (.rows e L t ish)) (hk : allB (fzKT b e L s.heap)) :
    ∃ ρ', ρ.le ρ' ∧ SRel own ρ' (fzS b e L s) w ∧ FzOK ρ ρ' b e L := by
  have hget : ∀ a o', (fzS b e L s).heap.get a = some o' → a ≠ b ∧ ∃ o, s.heap.get a = some o ∧ fzO b e L o = o' ∧ allB (fzKO b e L o) := by
    intro a o' h
    simp only [fzS, T.get_set] at h
    split at h
    · cases h
    · rename_i hne
      rw [fzT_get] at h
      have h2 := fzKT_get s.heap a hk
      cases ho : s.heap.get a with
      | none => rw [ho] at h; cases h
      | some o => rw [ho] at h h2; exact ⟨hne, o, rfl, Option.some.inj h, h2⟩
  cases hρ : ρ b with
  | none =>
    have hfz : FzOK ρ ρ b e L := ⟨ρ.sub_refl, fun x hx => by rw [hρ] at hx; cases hx⟩
    refine ⟨ρ, ρ.le_refl, ⟨hS.le, fun a o' x ha hx => ?_, fun a a' o1 o2 x x' ha ha' hx hx' hne => ?_, hS.dom, hS.top, hS.fz, hS.old⟩, hfz⟩
    · obtain ⟨_, o, g1, rfl, g3⟩ := hget a o' ha
      obtain ⟨q1, q2⟩ := hS.obj a o x g1 hx
      exact ⟨q1, fzO_rel hfz g3 q2⟩
    · obtain ⟨_, o, g1, _⟩ := hget a o1 ha
      obtain ⟨_, o', g1', _⟩ := hget a' o2 ha'
      exact hS.inj a a' o o' x x' g1 g1' hx hx' hne
  | some x =>
    let φ' : Nat → Nat → Option Value := fun B k => if B = x.B then w.cell? ⟨B, k, none⟩ else ρ.φ B k
    obtain ⟨⟨hown, hnone⟩, hobj⟩ := hS.obj b _ x hb hρ
    have hφ : subφ ρ.φ φ' := fun B k v hv => by
      show (if B = x.B then w.cell? ⟨B, k, none⟩ else ρ.φ B k) = some v
      by_cases e : B = x.B
      · subst e; rw [hnone k] at hv; cases hv
      · rw [if_neg e]; exact hv
    have hne : ∀ B, B ≠ x.B → ∀ k, φ' B k = ρ.φ B k := fun B hB k => if_neg hB
    have hle : ρ.le ⟨ρ.f, ρ.n, φ'⟩ := ⟨⟨fun _ _ h => h, hφ⟩, Nat.le_refl _, fun _ _ h => h⟩
    have hfz : FzOK ρ ⟨ρ.f, ρ.n, φ'⟩ b e L := by
      refine ⟨hle.sub, fun y hy => ?_⟩
      rw [hρ] at hy; cases hy
      obtain ⟨C, t', fr, q1, q2, q3, q4, q5, q6⟩ := hobj
      refine q4.mono hφ fun j v hv => ?_
      show (if x.B = x.B then w.cell? ⟨x.B, x.O + j, none⟩ else ρ.φ x.B (x.O + j)) = some v
      rw [if_pos rfl]
      simp [World.cell?, q1, hv]
    refine ⟨_, hle, ⟨hS.le, fun a o' y ha hy => ?_, fun a a' o1 o2 y y' ha ha' hy hy' hn => ?_, hS.dom, hS.top, fun B k v hv => ?_, fun B k hB => ?_⟩, hfz⟩
    · obtain ⟨hab, o, g1, rfl, g3⟩ := hget a o' ha
      obtain ⟨⟨q1, q2⟩, q3⟩ := hS.obj a o y g1 hy
      refine ⟨⟨q1, fun k => ?_⟩, fzO_rel hfz g3 q3⟩
      exact (hne _ (hS.inj a b o _ y x g1 hb hy hρ hab) k).trans (q2 k)
    · obtain ⟨_, o, g1, _⟩ := hget a o1 ha
      obtain ⟨_, o', g1', _⟩ := hget a' o2 ha'
      exact hS.inj a a' o o' y y' g1 g1' hy hy' hn
    · have hv : (if B = x.B then w.cell? ⟨B, k, none⟩ else ρ.φ B k) = some v := hv
      split at hv
      · exact hv
      · exact hS.fz B k v hv
    · exact (hne B (fun e => hB (by rw [e]; exact hown)) k).trans (hS.old B k hB)

noncomputable def fzSteps : List Nat → List Bool → List V → St → List Bool × List V × St
  | [], c, a, s => (c, a, s)
  | b :: bs, c, a, s => match s.heap.get b with
    | some (.rows e L t ish) => fzSteps bs (lapp c (lapp (fzKL b e L a) (fzKT b e L s.heap))) (fzL b e L a) (fzS b e L s)
    | _ => fzSteps bs c a s
theorem fzSteps_ok {own : Own} {w : World} {A : List Value} : ∀ (bs : List Nat) (c : List Bool) (a : List V) (s : St) (ρ : Env), allB (fzSteps bs c a s).1 → SRel own ρ s w → LRel ρ a A →
    allB c ∧ ∃ ρ', ρ.le ρ' ∧ SRel own ρ' (fzSteps bs c a s).2.2 w ∧ LRel ρ' (fzSteps bs c a s).2.1 A
  | [], c, a, s, ρ, h, hS, hA => ⟨h, ρ, ρ.le_refl, hS, hA⟩
  | b :: bs, c, a, s, ρ, h, hS, hA => by
    rw [fzSteps.eq_def] at h ⊢
    simp only at h ⊢
    split at h
    · rename_i e L t ish hb
      have hc : allB (lapp c (lapp (fzKL b e L a) (fzKT b e L s.heap))) := by
        have : ∀ (bs : List Nat) (c : List Bool) (a : List V) (s : St), allB (fzSteps bs c a s).1 → allB c := by
          intro bs
          induction bs with
          | nil => intro c a s h; exact h
          | cons b bs ih =>
            intro c a s h
            rw [fzSteps.eq_def] at h
            simp only at h
            split at h
            · have := ih _ _ _ h
              rw [lapp_eq, allB_append] at this
              exact this.1
            · exact ih _ _ _ h
        exact this _ _ _ _ h
      rw [lapp_eq, lapp_eq, allB_append, allB_append] at hc
      obtain ⟨ρ1, g1, g2, g3⟩ := fz_ok hS hb hc.2.2
      obtain ⟨_, ρ2, q1, q2, q3⟩ := fzSteps_ok bs _ _ _ ρ1 h g2 (fzL_rel g3 a A hc.2.1 hA)
      exact ⟨hc.1, ρ2, Env.le_trans g1 q1, q2, q3⟩
    · exact fzSteps_ok bs c a s ρ h hS hA
end Go.Sym
end

section
namespace Go.Sym
open Go.RowKit (Below)
set_option linter.unusedSimpArgs false
set_option linter.unusedVariables false

def Env.cut (ρ : Env) (k : Nat) : Env := ⟨fun b => bif Nat.blt b k then ρ b else none, min ρ.n k, ρ.φ⟩
theorem Env.cut_below (ρ : Env) (k : Nat) : (ρ.cut k).below k := by
  refine ⟨Nat.min_le_right _ _, fun b x h => ?_⟩
  simp only [Env.cut] at h
  cases hb : Nat.blt b k with
  | true => rw [blt_iff] at hb; exact of_decide_eq_true hb
  | false => rw [hb] at h; cases h
theorem Env.cut_le (ρ : Env) (k : Nat) : (ρ.cut k).le ρ := by
  refine ⟨⟨fun b x h => ?_, fun _ _ _ h => h⟩, Nat.min_le_left _ _, fun b hb h => ?_⟩
  · simp only [Env.cut] at h
    cases hb : Nat.blt b k with
    | true => rw [hb] at h; exact h
    | false => rw [hb] at h; cases h
  · simp only [Env.cut] at h hb
    have hk : Nat.blt b k = true := by rw [blt_iff]; exact decide_eq_true (by omega)
    rw [hk, cond_true] at h
    exact h
def HeapAt (P : Program) (k : Nat) (g : FuncId) (args : List V) (os : List EObj) (v : V) (h' : List (Nat × EObj)) (n' : Nat) : Prop :=
  ∀ (own : Own) (ρ : Env) (w : World) (A : Array Value), SRel own ρ ⟨heapOf (idxO 0 os), os.length⟩ w → LRel ρ args A.toList →
    Calls P g A w fun E w' => ∃ ρ' X, (ρ.cut k).le ρ' ∧ E = .returned X ∧ VRel ρ' v X ∧ SRel own ρ' ⟨heapOf h', n'⟩ w' ∧ Fr own w w'

abbrev HRes := List Bool × V × List (Nat × EObj) × Nat
abbrev HTab := FuncId → Option (Nat × Bool × (List V → List EObj → Option HRes))
def HTabOK (P : Program) (ht : HTab) : Prop := ∀ g k fr F, ht g = some (k, fr, F) → ∀ args os c v h' n', F args os = some (c, v, h', n') → allB c → HeapAt P k g args os v h' n'
noncomputable section
mutual
def nmV : V → List Nat
  | .ptr b _ => [b]
  | .rptr b _ _ _ => [b]
  | .sl b _ _ _ _ _ => [b]
  | .rs b _ _ _ _ _ => [b]
  | .map b => [b]
  | .yld b => [b]
  | .fn _ a c => lapp (nmL a) (nmL c)
  | .iface _ v => nmV v
  | .agg l => nmL l
  | .tup l => nmL l
  | _ => []
def nmL : List V → List Nat
  | [] => []
  | v :: l => lapp (nmV v) (nmL l)
end
def nmM : List (V × V × Nat) → List Nat
  | [] => []
  | e :: l => lapp (nmV e.1) (lapp (nmV e.2.1) (nmM l))
def nmO : Option EObj → List Nat
  | some (.cells cs _ _) => nmL cs
  | some (.map es _) => nmM es
  | _ => []
def memN (b : Nat) : List Nat → Bool
  | [] => false
  | c :: l => bif Nat.beq b c then true else memN b l
def reach (h : T EObj) : Nat → List Nat → List Nat → List Nat
  | 0, _, acc => acc
  | _ + 1, [], acc => acc
  | n + 1, b :: l, acc => bif memN b acc then reach h n l acc else reach h n (lapp l (nmO (h.get b))) (lapp acc [b])
def posN (b : Nat) : List Nat → Nat → Option Nat
  | [], _ => none
  | c :: l, i => bif Nat.beq b c then some i else posN b l (i + 1)
def objsAt (f : Nat → Option Nat) (h : T EObj) : List Nat → Option (List EObj)
  | [] => some []
  | b :: l => (match h.get b with
    | some o => (match renO f o, objsAt f h l with
      | some o', some l' => some (o' :: l')
      | _, _ => none)
    | none => none)
def rangeN : Nat → Nat → List Nat
  | _, 0 => []
  | b, n + 1 => b :: rangeN (b + 1) n
def backN (acc : List Nat) (k next : Nat) (b : Nat) : Option Nat := bif Nat.blt b k then lget acc b else some (next + (b - k))
def hpCore (k : Nat) (F : List V → List EObj → Option HRes) (args : List V) (s : St) (acc : List Nat) : Option (List Bool × V × St) :=
  match renL (fun b => posN b acc 0) args, objsAt (fun b => posN b acc 0) s.heap acc with
  | some args', some os => (match F args' os with
    | some (c, v, h', n') => bif Nat.ble k n' && (Nat.ble k (llen os) && lall (fun b => Nat.blt b s.next) acc) then (match renV (backN acc k s.next) v, renH (backN acc k s.next) h' with
      | some v', some h'' => some (c, v', ⟨putsT (delsT s.heap (lapp acc (rangeN s.next (n' - k)))) h'', s.next + (n' - k)⟩)
      | _, _ => none) else none
    | none => none)
  | _, _ => none
def hpFz (fr : Bool) (k : Nat) (args : List V) (s : St) : List Bool × List V × St :=
  bif fr then fzSteps (ldrop (reach s.heap 60 (nmL args) []) k) [] args s else ([], args, s)
def hpAt (ht : HTab) (t : ETgt) (s : St) : Option (List Bool × V × St) :=
  match t with
  | .fn g args => (match ht g with
    | some (k, fr, F) => (match hpFz fr k args s with
      | (c0, args, s) => (match hpCore k F args s (reach s.heap 60 (nmL args) []) with
        | some (c, v, s') => some (lapp c0 c, v, s')
        | none => none))
    | none => none)
  | .round _ _ => none
def knHW (ht : HTab) (kw : KnW) : KnW := fun t s => match hpAt ht t s with
  | some (c, v, s') => some fun k => needsR c (forceV 4 v fun v => forceS s' fun s => k (.ret v) s)
  | none => kw t s
def knHE (ht : HTab) (known : ESelf) : ESelf := fun t s => match hpAt ht t s with
  | some (c, v, s') => bif allb c then some (.ret v, s') else none
  | none => known t s
end
theorem knH_ad (ht : HTab) {kw : KnW} {known : ESelf} (ha : AdK kw known) : AdK (knHW ht kw) (knHE ht known) := by
  intro t s r hr k hk
  unfold knHW at hr
  unfold knHE
  split at hr
  · rename_i c v s' hc
    cases hr
    obtain ⟨h1, h2⟩ := needs_b hk
    rw [forceV_iff, forceS_iff] at h2
    exact ⟨_, _, by simp only [h1, cond_true], h2⟩
  · exact ha t s r hr k hk
theorem knH_no (ht : HTab) {kw : KnW} {known : ESelf} (hn : NoK kw known) : NoK (knHW ht kw) (knHE ht known) := by
  intro t s h
  unfold knHW at h
  unfold knHE
  split at h
  · cases h
  · exact hn t s h

theorem posN_get : ∀ {l : List Nat} {b j i : Nat}, posN b l j = some i → j ≤ i ∧ l[i - j]? = some b
  | [], b, j, i, h => by cases h
  | c :: l, b, j, i, h => by
    rw [posN] at h
    cases hb : Nat.beq b c with
    | true =>
      rw [hb, cond_true] at h; cases h
      have := Nat.eq_of_beq_eq_true hb
      subst this
      exact ⟨Nat.le_refl _, by rw [Nat.sub_self]; rfl⟩
    | false =>
      rw [hb, cond_false] at h
      obtain ⟨h1, h2⟩ := posN_get h
      exact ⟨by omega, by rw [show i - j = (i - (j + 1)) + 1 by omega, List.getElem?_cons_succ]; exact h2⟩
theorem objsAt_get {f : Nat → Option Nat} {h : T EObj} : ∀ {l : List Nat} {os : List EObj}, objsAt f h l = some os → os.length = l.length ∧ ∀ (i : Nat) (o' : EObj), os[i]? = some o' → ∃ (b : Nat) (o : EObj), l[i]? = some b ∧ h.get b = some o ∧ renO f o = some o'
  | [], os, hr => by rw [objsAt] at hr; cases hr; exact ⟨rfl, fun i o' hi => by simp at hi⟩
  | b :: l, os, hr => by
    rw [objsAt] at hr
    split at hr
    · rename_i o ho
      split at hr
      · rename_i o1 l1 h1 h2
        cases hr
        obtain ⟨g1, g2⟩ := objsAt_get h2
        refine ⟨by simp [g1], fun i o' hi => ?_⟩
        cases i with
        | zero => simp at hi; subst hi; exact ⟨b, o, rfl, ho, h1⟩
        | succ i => exact (g2 i o' (by simpa using hi)).imp fun b' h => by simpa using h
      · cases hr
    · cases hr
theorem rangeN_mem : ∀ {n b a : Nat}, b ≤ a → a < b + n → a ∈ rangeN b n
  | 0, b, a, h1, h2 => by omega
  | n + 1, b, a, h1, h2 => by
    rw [rangeN]
    by_cases e : a = b
    · rw [e]; exact List.mem_cons_self
    · exact List.mem_cons_of_mem _ (rangeN_mem (by omega) (by omega))
theorem memN_of : ∀ {l : List Nat} {b : Nat}, memN b l = false → b ∉ l
  | [], b, _ => by simp
  | c :: l, b, h => by
    rw [memN] at h
    cases hb : Nat.beq b c with
    | true => rw [hb, cond_true] at h; cases h
    | false =>
      rw [hb, cond_false] at h
      intro hm
      rcases List.mem_cons.1 hm with e | e
      · subst e; rw [Nat.beq_refl] at hb; cases hb
      · exact memN_of h e
theorem reach_nodup (h : T EObj) : ∀ (n : Nat) (l acc : List Nat), acc.Nodup → (reach h n l acc).Nodup
  | 0, l, acc, hn => hn
  | n + 1, [], acc, hn => hn
  | n + 1, b :: l, acc, hn => by
    rw [reach]
    cases hb : memN b acc with
    | true => exact reach_nodup h n l acc hn
    | false =>
      refine reach_nodup h n _ _ ?_
      rw [lapp_eq]
      refine List.nodup_append.2 ⟨hn, by simp, fun a ha b' hb' e => ?_⟩
      rw [List.mem_singleton.1 hb'] at e
      exact memN_of hb (e ▸ ha)

theorem hpCore_ok {P : Program} {k : Nat} {g : FuncId} {F : List V → List EObj → Option HRes} (hF : ∀ args os c v h' n', F args os = some (c, v, h', n') → allB c → HeapAt P k g args os v h' n')
    {args : List V} {s : St} {acc : List Nat} (hnd : acc.Nodup) {c : List Bool} {v : V} {s' : St} (hc : hpCore k F args s acc = some (c, v, s')) (hcc : allB c) {own : Own} {ρ : Env} {w : World} {A : Array Value} (hS : SRel own ρ s w) (hA : LRel ρ args A.toList) (n : Nat) :
    CallsIn Fence.wide n P g A w (Post own ρ w (.ret v) s') := by
  unfold hpCore at hc
  split at hc
  · rename_i args' os hargs hos
    split at hc
    · rename_i c1 v1 h1 n1 hres
      cases hkb : (Nat.ble k n1 && (Nat.ble k (llen os) && lall (fun b => Nat.blt b s.next) acc)) with
      | false => rw [hkb] at hc; cases hc
      | true =>
      rw [hkb, cond_true] at hc
      rw [Bool.and_eq_true, Bool.and_eq_true, Nat.ble_eq, Nat.ble_eq, llen_eq, lall_eq, List.all_eq_true] at hkb
      obtain ⟨hkn1, hkos, hall⟩ := hkb
      split at hc
      · rename_i v2 h2 hv2 hh2
        cases hc
        obtain ⟨hlen, hget⟩ := objsAt_get hos
        let ρ1 : Env := ⟨fun b => match acc[b]? with
          | some b1 => ρ b1
          | none => none, os.length, ρ.φ⟩
        have hρ1 : ∀ b b1, acc[b]? = some b1 → ρ1 b = ρ b1 := fun b b1 h => by show (match acc[b]? with | some b1 => ρ b1 | none => none) = _; rw [h]
        let own1 : Own := ⟨fun B => (∃ b o x, b ∈ acc ∧ s.heap.get b = some o ∧ ρ b = some x ∧ x.B = B) ∨ w.heap.size ≤ B, ρ.φ⟩
        have hren : RenOK (fun b => posN b acc 0) ρ ρ1 := ⟨fun b b' hb x hx => by
          obtain ⟨_, g⟩ := posN_get hb
          rw [Nat.sub_zero] at g
          rw [hρ1 _ _ g]; exact hx, fun _ _ _ h => h⟩
        have hobj : ∀ b o x, (heapOf (idxO 0 os)).get b = some o → ρ1 b = some x → ∃ b1 o1, acc[b]? = some b1 ∧ s.heap.get b1 = some o1 ∧ ρ b1 = some x ∧ renO (fun b => posN b acc 0) o1 = some o := by
          intro b o x hb hx
          obtain ⟨_, g1⟩ := idxO_get hb
          rw [Nat.sub_zero] at g1
          obtain ⟨b1, o1, g2, g3, g4⟩ := hget b o g1
          rw [hρ1 _ _ g2] at hx
          exact ⟨b1, o1, g2, g3, hx, g4⟩
        have hS1 : SRel own1 ρ1 ⟨heapOf (idxO 0 os), os.length⟩ w := by
          refine ⟨fun B hB => .inr hB, fun b o x hb hx => ?_, fun b b' o o' x x' hb hb' hx hx' hne => ?_, fun b x hx => ?_, Nat.le_refl _, hS.fz, fun _ _ _ => rfl⟩
          · obtain ⟨b1, o1, g1, g2, g3, g4⟩ := hobj b o x hb hx
            obtain ⟨⟨q1, q2⟩, q3⟩ := hS.obj b1 o1 x g2 g3
            exact ⟨⟨.inl ⟨b1, o1, x, List.mem_of_getElem? g1, g2, g3, rfl⟩, q2⟩, renO_rel hren g4 q3⟩
          · obtain ⟨b1, o1, g1, g2, g3, g4⟩ := hobj b o x hb hx
            obtain ⟨b1', o1', g1', g2', g3', g4'⟩ := hobj b' o' x' hb' hx'
            refine hS.inj b1 b1' o1 o1' x x' g2 g2' g3 g3' fun e => hne ?_
            subst e
            obtain ⟨l1, e1⟩ := List.getElem?_eq_some_iff.1 g1
            obtain ⟨l2, e2⟩ := List.getElem?_eq_some_iff.1 g1'
            exact (List.getElem_inj hnd).1 (e1.trans e2.symm)
          · have : ∃ b1, acc[b]? = some b1 := by
              cases ha : acc[b]? with
              | some b1 => exact ⟨b1, rfl⟩
              | none =>
                have hx : (match acc[b]? with | some b1 => ρ b1 | none => none) = some x := hx
                rw [ha] at hx; cases hx
            obtain ⟨b1, ha⟩ := this
            show b < os.length
            rw [hlen]
            exact (List.getElem?_eq_some_iff.1 ha).1
        have hp := hF args' os c v1 h1 n1 hres hcc own1 ρ1 w A hS1 (renL_rel hren _ _ _ hargs hA)
        refine callsIn_wide.2 (hp.mono ?_)
        rintro E w' ⟨ρ', X, hle, rfl, hX, hS', hfr⟩
        have hown1 : ∀ B, own1 B → own B := fun B hB => by
          rcases hB with ⟨b, o, x, _, h2, h3, rfl⟩ | hB
          · exact (hS.obj b o x h2 h3).1.1
          · exact hS.le B hB
        let ρ2 : Env := ⟨fun a => bif Nat.blt a s.next then ρ a else ρ' (k + (a - s.next)), ρ.n, ρ'.φ⟩
        have hlo : ∀ a, a < s.next → ρ2 a = ρ a := fun a ha => by
          show (bif Nat.blt a s.next then ρ a else ρ' (k + (a - s.next))) = _
          rw [blt_iff, decide_eq_true ha, cond_true]
        have hhi : ∀ a, s.next ≤ a → ρ2 a = ρ' (k + (a - s.next)) := fun a ha => by
          show (bif Nat.blt a s.next then ρ a else ρ' (k + (a - s.next))) = _
          rw [blt_iff, decide_eq_false (by omega), cond_false]
        have hsub : ρ.sub ρ2 := ⟨fun b x hb => by rw [hlo b (hS.dom b x hb)]; exact hb, hle.sub.2⟩
        have hcutn : ∀ b, b < k → b < (ρ1.cut k).n := fun b hb => by show b < min os.length k; omega
        have hkeep : ∀ b x, b < k → ρ' b = some x → ρ1 b = some x := fun b x hb hx => by
          have hcb : (ρ1.cut k) b = ρ1 b := by show (bif Nat.blt b k then ρ1 b else none) = _; rw [blt_iff, decide_eq_true hb, cond_true]
          cases h1 : ρ1 b with
          | none => rw [hle.keep b (hcutn b hb) (by rw [hcb]; exact h1)] at hx; cases hx
          | some y =>
            have := hle.sub.1 b y (by rw [hcb]; exact h1)
            rw [this] at hx; exact hx
        have hback : RenOK (backN acc k s.next) ρ' ρ2 := by
          refine ⟨fun b a hb x hx => ?_, fun _ _ _ h => h⟩
          unfold backN at hb
          by_cases hbk : b < k
          · rw [blt_iff, decide_eq_true hbk, cond_true, lget_eq] at hb
            have h1 := hkeep b x hbk hx
            rw [hρ1 _ _ hb] at h1
            rw [hlo a (hS.dom a x h1)]; exact h1
          · rw [blt_iff, decide_eq_false hbk, cond_false] at hb
            cases hb
            rw [hhi _ (Nat.le_add_right _ _), show k + (s.next + (b - k) - s.next) = b by omega]
            exact hx
        have hbinj : ∀ b a, backN acc k s.next b = some a → ∀ x, ρ2 a = some x → (∃ y, ρ' b = some y) → ρ' b = some x := by
          intro b a hb x hx ⟨y, hy⟩
          have := hback.1 b a hb y hy
          rw [this] at hx; cases hx; exact hy
        have hobj2 : ∀ a o x, (putsT (delsT s.heap (lapp acc (rangeN s.next (n1 - k)))) h2).get a = some o → ρ2 a = some x →
            (∃ b o', backN acc k s.next b = some a ∧ (heapOf h1).get b = some o' ∧ renO (backN acc k s.next) o' = some o ∧ ρ' b = some x) ∨ (s.heap.get a = some o ∧ a ∉ acc ∧ ρ a = some x) := by
          intro a o x ha hx
          rcases putsT_get hh2 ha with ⟨b, o', g1, g2, g3⟩ | g
          · refine .inl ⟨b, o', g1, g2, g3, ?_⟩
            unfold backN at g1
            by_cases hbk : b < k
            · rw [blt_iff, decide_eq_true hbk, cond_true, lget_eq] at g1
              by_cases han : a < s.next
              · rw [hlo a han] at hx
                refine hle.sub.1 b x ?_
                show (bif Nat.blt b k then ρ1 b else none) = _
                rw [blt_iff, decide_eq_true hbk, cond_true, hρ1 _ _ g1]; exact hx
              · exfalso
                have := hall a (List.mem_of_getElem? g1)
                rw [Nat.blt_eq] at this
                omega
            · rw [blt_iff, decide_eq_false hbk, cond_false] at g1
              cases g1
              rw [hhi _ (Nat.le_add_right _ _), show k + (s.next + (b - k) - s.next) = b by omega] at hx
              exact hx
          · obtain ⟨g1, g2⟩ := delsT_get g
            rw [lapp_eq, List.mem_append, not_or] at g2
            refine .inr ⟨g1, g2.1, ?_⟩
            by_cases han : a < s.next
            · rw [hlo a han] at hx; exact hx
            · exfalso
              rw [hhi a (by omega)] at hx
              have hd : k + (a - s.next) < n1 := hS'.dom _ _ hx
              exact g2.2 (rangeN_mem (by omega) (by omega))
        have hout : ∀ a o x, s.heap.get a = some o → a ∉ acc → ρ a = some x → ¬ own1 x.B := by
          intro a o x h1 h2 h3 hB
          rcases hB with ⟨b, o', x', g1, g2, g3, g4⟩ | hB
          · refine hS.inj b a o' o x' x g2 h1 g3 h3 (fun e => h2 (e ▸ g1)) g4
          · exact absurd (hS.lt h1 h3) (by omega)
        refine ⟨ρ2, ⟨hsub, Nat.le_refl _, fun b hb hn => ?_⟩, ⟨X, rfl, renV_rel hback _ _ _ hv2 hX⟩, ⟨fun B hB => hS.le B (Nat.le_trans hfr.size hB), fun a o x ha hx => ?_, fun a a' o o' x x' ha ha' hx hx' hne => ?_, fun a x hx => ?_, ?_, hS'.fz, fun B j hB => ?_⟩, ⟨hfr.os, hfr.tape, hfr.output, hfr.size, fun B hB => hfr.block B fun h => hB (hown1 B h)⟩⟩
        · rw [hlo b (Nat.lt_of_lt_of_le hb hS.top)]; exact hn
        · rcases hobj2 a o x ha hx with ⟨b, o', g1, g2, g3, g4⟩ | ⟨g1, g2, g3⟩
          · obtain ⟨⟨q1, q2⟩, q3⟩ := hS'.obj b o' x g2 g4
            exact ⟨⟨hown1 _ q1, q2⟩, renO_rel hback g3 q3⟩
          · obtain ⟨⟨q1, q2⟩, q3⟩ := hS.obj a o x g1 g3
            have hno := hout a o x g1 g2 g3
            refine ⟨⟨q1, fun j => ?_⟩, ?_⟩
            · show ρ'.φ x.B j = none
              rw [hS'.old _ _ hno]
              exact q2 j
            · rw [hfr.block _ hno]
              exact q3.up hsub
        · rcases hobj2 a o x ha hx with ⟨b, p, g1, g2, g3, g4⟩ | ⟨g1, g2, g3⟩ <;> rcases hobj2 a' o' x' ha' hx' with ⟨b', p', g1', g2', g3', g4'⟩ | ⟨g1', g2', g3'⟩
          · refine hS'.inj b b' p p' x x' g2 g2' g4 g4' fun e => hne ?_
            subst e
            rw [g1] at g1'; cases g1'; rfl
          · intro e
            exact hout a' o' x' g1' g2' g3' (e ▸ (hS'.obj b p x g2 g4).1.1)
          · intro e
            exact hout a o x g1 g2 g3 (e ▸ (hS'.obj b' p' x' g2' g4').1.1)
          · exact hS.inj a a' o o' x x' g1 g1' g3 g3' hne
        · show a < s.next + (n1 - k)
          by_cases han : a < s.next
          · omega
          · rw [hhi a (by omega)] at hx
            have hd : k + (a - s.next) < n1 := hS'.dom _ _ hx
            omega
        · show ρ.n ≤ s.next + (n1 - k)
          have := hS.top
          omega
        · show ρ'.φ B j = own.φ B j
          rw [hS'.old B j fun h => hB (hown1 B h)]
          exact hS.old B j hB
      · cases hc
    · cases hc
  · cases hc
theorem Post.le {own : Own} {ρ ρ' : Env} {w : World} {e : EEnd} {s' : St} (h : ρ.le ρ') {E : Ending} {w' : World} (r : Post own ρ' w e s' E w') : Post own ρ w e s' E w' := by
  obtain ⟨ρ2, h1, h2⟩ := r
  exact ⟨ρ2, Env.le_trans h h1, h2⟩
theorem knH_ok {P : Program} {ht : HTab} {known : ESelf} (hh : HTabOK P ht) (hk : SelfOK P known) : SelfOK P (knHE ht known) := by
  intro t s e s' hkn own ρ w hS n
  unfold knHE at hkn
  split at hkn
  · rename_i c v s1 hc
    cases hcc : allb c with
    | false => rw [hcc] at hkn; cases hkn
    | true =>
    rw [hcc, cond_true] at hkn
    cases hkn
    have hcc := (allb_iff c).1 hcc
    cases t with
    | round l args => cases hc
    | fn g args =>
    intro A hA
    unfold hpAt at hc
    split at hc
    · rename_i g0 args0 heq
      cases heq
      split at hc
      · rename_i k fr F hF
        split at hc
        rename_i c0 args1 s2 hfz
        split at hc
        · rename_i c1 v1 s3 hcore
          cases hc
          rw [lapp_eq, allB_append] at hcc
          have hpre : ∃ ρ', ρ.le ρ' ∧ SRel own ρ' s2 w ∧ LRel ρ' args1 A.toList := by
            unfold hpFz at hfz
            cases fr with
            | false => rw [cond_false] at hfz; cases hfz; exact ⟨ρ, ρ.le_refl, hS, hA⟩
            | true =>
              rw [cond_true] at hfz
              have := fzSteps_ok (ldrop (reach s.heap 60 (nmL args) []) k) [] args s ρ (by rw [hfz]; exact hcc.1) hS hA
              rw [hfz] at this
              exact this.2
          obtain ⟨ρ1, g1, g2, g3⟩ := hpre
          exact (hpCore_ok (fun args os c v h' n' h1 h2 => hh g k fr F hF args os c v h' n' h1 h2) (reach_nodup s2.heap 60 (nmL args1) [] List.nodup_nil) hcore hcc.2 g2 g3 n).mono fun E w' r => Post.le g1 r
        · cases hc
      · cases hc
    · cases hc
  · exact hk t s e s' hkn own ρ w hS n
noncomputable section
mutual
def fpV : V → V → List Nat
  | .lst _ _ _, w => (match w with
    | .rs b _ _ _ _ _ => [b]
    | _ => [])
  | .iface _ v, w => (match w with
    | .iface _ u => fpV v u
    | _ => [])
  | .agg l, w => (match w with
    | .agg m => fpL l m
    | _ => [])
  | .tup l, w => (match w with
    | .tup m => fpL l m
    | _ => [])
  | .fn _ a c, w => (match w with
    | .fn _ a' c' => lapp (fpL a a') (fpL c c')
    | _ => [])
  | _, _ => []
def fpL : List V → List V → List Nat
  | [], _ => []
  | v :: l, m => (match m with
    | w :: m => lapp (fpV v w) (fpL l m)
    | [] => [])
end
def fpO (o : EObj) (o1 : Option EObj) : List Nat := match o with
  | .cells cs _ _ => (match o1 with
    | some (.cells ds _ _) => fpL cs ds
    | _ => [])
  | _ => []
def fpH (k : Nat) (m : List (Nat × Nat)) (h1 : T EObj) : List (Nat × EObj) → List Nat
  | [] => []
  | e :: l => lapp (match renN k m e.1 with
    | some b1 => fpO e.2 (h1.get b1)
    | none => []) (fpH k m h1 l)
def uniqN : List Nat → List Nat
  | [] => []
  | b :: l => bif memN b (uniqN l) then uniqN l else b :: uniqN l
def cfg1 (v : V) (s : St) : Cfg := ⟨⟨1, .leaf v⟩, [], s⟩
def cd1 (v : V) (h : List (Nat × EObj)) (n : Nat) : CD := ⟨1, [(0, v)], [], h, n⟩
def autoF (k : Nat) (v0 : V) (h0 : List (Nat × EObj)) (n0 : Nat) (v : V) (s : St) : List Nat :=
  uniqN (lapp (fpV v0 v) (fpH k (keepM k (autoM k (cd1 v0 h0 n0) (cfg1 v s))) s.heap h0))
def fzAll : List Nat → V → St → (V → St → Prop) → Prop
  | [], v, s, K => K v s
  | b :: bs, v, s, K => match s.heap.get b with
    | some (.rows e L t ish) => needsR (lapp (fzKV b e L v) (fzKT b e L s.heap)) (forceV 4 (fzV b e L v) fun v => forceS (fzS b e L s) fun s => fzAll bs v s K)
    | _ => False
def RetH (k : Nat) (v0 : V) (h0 : List (Nat × EObj)) (n0 : Nat) : KS := fun e s' => match e with
  | .ret v' => forceV 4 v' fun v' => forceL (autoF k v0 h0 n0 v' s') fun bs => fzAll bs v' s' fun v s => ∃ m, (cd1 v0 h0 n0).wk k m (cfg1 v s)
  | .pan _ => False
end
theorem fzAll_ok {own : Own} {w : World} {K : V → St → Prop} {X : Value} : ∀ (bs : List Nat) (v : V) (s : St) (ρ : Env), fzAll bs v s K → SRel own ρ s w → VRel ρ v X →
    ∃ ρ' v' s', ρ.le ρ' ∧ SRel own ρ' s' w ∧ VRel ρ' v' X ∧ K v' s'
  | [], v, s, ρ, h, hS, hv => ⟨ρ, v, s, ρ.le_refl, hS, hv, h⟩
  | b :: bs, v, s, ρ, h, hS, hv => by
    rw [fzAll] at h
    split at h
    · rename_i e L t ish hb
      rw [needsR_iff, forceV_iff, forceS_iff, lapp_eq, allB_append] at h
      obtain ⟨⟨h1, h2⟩, h3⟩ := h
      obtain ⟨ρ1, g1, g2, g3⟩ := fz_ok hS hb h2
      obtain ⟨ρ2, v', s', q1, q2, q3, q4⟩ := fzAll_ok bs _ _ ρ1 h3 g2 (fzV_rel g3 v X h1 hv)
      exact ⟨ρ2, v', s', Env.le_trans g1 q1, q2, q3, q4⟩
    · exact h.elim

section
variable {P : Program}
theorem heap_of_S {ws : SW} {self : ESelf} (hs : SelfOK P self) (ha : AdS ws self) {fuel N k : Nat} {g : FuncId} {args : List V} {os : List EObj} {v : V} {h' : List (Nat × EObj)} {n' : Nat} (hN : os.length = N) (hk : Nat.ble k N = true) (ls : List LpD) (hls : ∀ n, ∀ l ∈ ls, l.ok P n N (bodyOf P g))
    (h : forceS ⟨heapOf (idxO 0 os), N⟩ fun s => fnLW P ws fuel (lpsW N ls) g args s (RetH k v h' n')) : HeapAt P k g args os v h' n' := by
  intro own ρ w A hS hA
  subst hN
  rw [forceS_iff] at h
  obtain ⟨e, s', h1, h2⟩ := fnLW_ad ha fuel (lps_ad os.length ls) g args _ _ h
  have := fnL_sound hs fuel (lpsF os.length ls) g args _ (fun fn c n hf hc => by
    have hb : bodyOf P g = c := by simp only [bodyOf, hf, hc]
    rw [← hb]
    exact lps_ok (hls n)) e s' h1 own ρ w hS 0 A hA
  refine (callsIn_wide.1 this).mono ?_
  rintro E w' ⟨ρ1, g1, g2, g3, g4⟩
  cases e with
  | pan v' => exact h2.elim
  | ret v' =>
    obtain ⟨X, rfl, hX⟩ := g2
    have h2 : forceV 4 v' fun v' => forceL (autoF k v h' n' v' s') fun bs => fzAll bs v' s' fun v1 s => ∃ m, (cd1 v h' n').wk k m (cfg1 v1 s) := h2
    rw [forceV_iff, forceL_iff] at h2
    obtain ⟨ρ2, v2, s2, q1, q2, q3, m, q4⟩ := fzAll_ok _ v' s' ρ1 h2 g3 hX
    have hrel : Rel own ρ2 (cfg1 v2 s2) { tmps := #[X], defers := [] } w' := by
      refine ⟨⟨rfl, 0, rfl, Nat.le_refl _, fun i Y hi => ?_⟩, rfl, q2⟩
      cases i with
      | zero => simp at hi; subst hi; exact q3
      | succ i => simp at hi
    obtain ⟨ρ3, t1, t2⟩ := CD.wk_ok q4 own (ρ.cut k) ρ2 _ w' (Env.cut_below ρ k) (Env.le_trans (Env.cut_le ρ k) (Env.le_trans g1 q1)) hrel
    refine ⟨ρ3, X, t1, rfl, ?_, t2.s, g4⟩
    obtain ⟨_, d, _, _, f4⟩ := t2.f
    exact f4 0 X rfl
theorem heap_of_K {kw : KnW} {known : ESelf} (hs : SelfOK P known) (ha : AdK kw known) (hn : NoK kw known) {fuel d N k : Nat} {g : FuncId} {args : List V} {os : List EObj} {v : V} {h' : List (Nat × EObj)} {n' : Nat} (hN : os.length = N) (hk : Nat.ble k N = true) (ls : List LpD) (hls : ∀ n, ∀ l ∈ ls, l.ok P n N (bodyOf P g))
    (h : forceS ⟨heapOf (idxO 0 os), N⟩ fun s => fnLW P (callW P kw fuel d) fuel (lpsW N ls) g args s (RetH k v h' n')) : HeapAt P k g args os v h' n' :=
  heap_of_S (call_sound hs fuel d) (callW_ad ha hn fuel d) hN hk ls hls h
theorem heap_of_W {tab : Tab} (ht : TabOK P tab) {fuel d N k : Nat} {g : FuncId} {args : List V} {os : List EObj} {v : V} {h' : List (Nat × EObj)} {n' : Nat} (hN : os.length = N) (hk : Nat.ble k N = true) (ls : List LpD) (hls : ∀ n, ∀ l ∈ ls, l.ok P n N (bodyOf P g))
    (h : forceS ⟨heapOf (idxO 0 os), N⟩ fun s => fnLW P (callW P (knW tab) fuel d) fuel (lpsW N ls) g args s (RetH k v h' n')) : HeapAt P k g args os v h' n' :=
  heap_of_K (kn_ok ht) (kn_ad tab) (kn_no tab) hN hk ls hls h
theorem heap_of_H {ht : HTab} {tab : Tab} (hh : HTabOK P ht) (h0 : TabOK P tab) {fuel d N k : Nat} {g : FuncId} {args : List V} {os : List EObj} {v : V} {h' : List (Nat × EObj)} {n' : Nat} (hN : os.length = N) (hk : Nat.ble k N = true) (ls : List LpD) (hls : ∀ n, ∀ l ∈ ls, l.ok P n N (bodyOf P g))
    (h : forceS ⟨heapOf (idxO 0 os), N⟩ fun s => fnLW P (callW P (knHW ht (knW tab)) fuel d) fuel (lpsW N ls) g args s (RetH k v h' n')) : HeapAt P k g args os v h' n' :=
  heap_of_K (knH_ok hh (kn_ok h0)) (knH_ad ht (kn_ad tab)) (knH_no ht (kn_no tab)) hN hk ls hls h
theorem pure_of_H {ht : HTab} {tab : Tab} (hh : HTabOK P ht) (h0 : TabOK P tab) {fuel d : Nat} {g : FuncId} {args : List V} {v : V} (ls : List LpD) (hls : ∀ n, ∀ l ∈ ls, l.ok P n 0 (bodyOf P g))
    (h : fnLW P (callW P (knHW ht (knW tab)) fuel d) fuel (lpsW 0 ls) g args s0 (RetW v)) : PureAt P g args v :=
  pure_of_K (knH_ok hh (kn_ok h0)) (knH_ad ht (kn_ad tab)) (knH_no ht (kn_no tab)) ls hls h
theorem loop_H {ht : HTab} {tab : Tab} (hh : HTabOK P ht) (h0 : TabOK P tab) {fuel d n k : Nat} {b : Code} {X : Type} (cd : X → CD) (μ : X → Nat) (out : X → OD) (ls : X → List LpD) (hls : ∀ x, ∀ l ∈ ls x, l.ok P n k b)
    (h : ∀ x, cfgK (cd x) fun c => compW P (callW P (knHW ht (knW tab)) fuel d) fuel none (lpsW k (ls x)) b c (RoundW k cd μ out x)) (x : X) : CodeAt P none none n k (.loop b) (cd x).cfg (out x).ot.den.1 (out x).ot.den.2 :=
  loop_K (knH_ok hh (kn_ok h0)) (knH_ad ht (kn_ad tab)) (knH_no ht (kn_no tab)) cd μ out ls hls h x
def noHT : HTab := fun _ => none
theorem noHT_ok : HTabOK P noHT := fun _ _ _ _ h => by cases h
def oneHT (f : FuncId) (k : Nat) (fr : Bool) (F : List V → List EObj → Option HRes) (b : HTab) : HTab := fun g => bif Nat.beq g f then some (k, fr, F) else b g
theorem oneHT_ok {f : FuncId} {k : Nat} {fr : Bool} {F : List V → List EObj → Option HRes} {b : HTab} (hF : ∀ args os c v h' n', F args os = some (c, v, h', n') → allB c → HeapAt P k f args os v h' n') (hb : HTabOK P b) : HTabOK P (oneHT f k fr F b) := by
  intro g k' fr' F' h
  unfold oneHT at h
  cases hg : Nat.beq g f with
  | true => rw [hg, cond_true] at h; cases h; rw [Nat.eq_of_beq_eq_true hg]; exact hF
  | false => rw [hg, cond_false] at h; exact hb g k' fr' F' h
theorem HeapAt.lst {k : Nat} {g : FuncId} {e : List Ty} {a : V} {L : List (rowDen e)} {pre rest : List V} {os : List EObj} {v : V} {h' : List (Nat × EObj)} {n' : Nat} (h : HeapAt P k g (pre ++ .lst e L false :: rest) os v h' n') (ha : ofLst e a = some L) : HeapAt P k g (pre ++ a :: rest) os v h' n' := by
  intro own ρ w A hS hA
  refine h own ρ w A hS ?_
  clear h hS
  generalize A.toList = B at hA
  induction pre generalizing B with
  | nil =>
    obtain ⟨x, Y, rfl, h1, h2⟩ := hA
    exact ⟨x, Y, rfl, ofLst_rel ha h1, h2⟩
  | cons b pre ih =>
    obtain ⟨x, Y, rfl, h1, h2⟩ := hA
    exact ⟨x, Y, rfl, h1, ih Y h2⟩
end
end Go.Sym
end
