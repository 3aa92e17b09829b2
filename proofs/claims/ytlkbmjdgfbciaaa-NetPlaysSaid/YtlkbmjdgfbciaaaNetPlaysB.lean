/-
  NetPlays returns true at every acts and size. Conditions: numbers that fit their kinds, texts of a machine's size.
-/
import Derived.Test.YtlkbmjdgfbciaaaNetPlays
import Derived.Test.YtlkbmjdgfbciaaaNetWorks
namespace Go.Proofs.Ytlkbmjdgfbciaaa
open Go.Sym
set_option linter.unusedVariables false
set_option linter.unusedSimpArgs false
set_option maxRecDepth 100000
set_option maxHeartbeats 4000000

noncomputable def true30F (args : List V) : Option (List Bool × V) := match args with
  | [] => some ([], .bool true)
  | _ => none
theorem true30F_ok {P : Program} {g : FuncId} (hg : PureAt P g [] (.bool true)) (args : List V) (c : List Bool) (v : V) (h : true30F args = some (c, v)) (_ : allB c) : PureAt P g args v := by
  unfold true30F at h
  split at h
  · cases h; exact hg
  · cases h
section
variable (acts : List ActR) (most : Int)
noncomputable def nqC (n i : Nat) : CD := ⟨88, [(5, .ptr 0 0), (6, .ptr 1 0), (8, .int .i64 (i : Int))], [], npH most (runN most acts n), 4⟩
theorem np_loop2 (n : Nat) (hm : 1 ≤ most ∧ most ≤ 100000) (N : Nat) : LpD.ok Try.prog N 0 (bodyOf Try.prog 3) ⟨10, [(0, 0), (1, 1), (2, 2), (3, 3)], nqC acts most n 0, .leaf (.exit 2) (nqC acts most n (runN most acts n).length)⟩ := by
  refine LpD.ok_one (b := bodyAt Try.prog 3 10) rfl (loop_W noTab_ok (fuel := 3) (d := 8) (X := { i : Nat // i ≤ (runN most acts n).length }) (fun x => nqC acts most n x.1) (fun x => (runN most acts n).length - x.1)
    (fun _ => .leaf (.exit 2) (nqC acts most n (runN most acts n).length)) (fun _ => noLpW) (fun _ => noLp) (fun _ => noLp_ad) (fun _ => noLp_ok _) ?_ ⟨0, Nat.zero_le _⟩)
  rintro ⟨i, hi⟩
  dsimp only
  have hg := goodN_run (most := most) (by omega) acts n
  have hmx := hg.2
  rcases Nat.lt_or_ge i (runN most acts n).length with hlt | hge
  · repeat' (conv => whnf
             first
              | (with_reducible exact True.intro)
              | (with_reducible rfl)
              | (with_reducible exact castL_self _ _)
              | ((with_reducible refine V.same_t ?_); exact rfl)
              | (with_reducible refine iteB_n ?_)
              | (with_reducible refine iteB_ct ?_)
              | (with_reducible refine iteB_cf ?_)
              | ((with_reducible refine andB_room ?_ ?_ ?_); (· kernel_rfl); (· (first | omega | (simp only [castL_self, seg_len, List.length_append, List.length_cons, List.length_nil, List.length_drop, List.length_take, List.length_eraseIdx, List.length_replicate, ByteArray.size_extract, bs_app, maxI_eq] <;> omega))))
              | ((with_reducible refine andB_in ?_ ?_); · (first | omega | (simp only [castL_self, seg_len, List.length_append, List.length_cons, List.length_nil, List.length_drop, List.length_take, List.length_eraseIdx, List.length_replicate, ByteArray.size_extract, bs_app, maxI_eq] <;> omega)))
              | ((with_reducible refine andB_d ?_ ?_); · (first | (with_reducible assumption) | (first | omega | (simp only [castL_self, seg_len, List.length_append, List.length_cons, List.length_nil, List.length_drop, List.length_take, List.length_eraseIdx, List.length_replicate, ByteArray.size_extract, bs_app, maxI_eq] <;> omega))))
              | ((with_reducible refine andB_lt ?_ ?_); · (first | (with_reducible assumption) | (first | omega | (simp only [castL_self, seg_len, List.length_append, List.length_cons, List.length_nil, List.length_drop, List.length_take, List.length_eraseIdx, List.length_replicate, ByteArray.size_extract, bs_app, maxI_eq] <;> omega))))
              | ((with_reducible refine andB_le ?_ ?_); · (first | (with_reducible assumption) | (first | omega | (simp only [castL_self, seg_len, List.length_append, List.length_cons, List.length_nil, List.length_drop, List.length_take, List.length_eraseIdx, List.length_replicate, ByteArray.size_extract, bs_app, maxI_eq] <;> omega))))
              | ((with_reducible refine iteB_ltt ?_ ?_); · (first | (with_reducible assumption) | (first | omega | (simp only [castL_self, seg_len, List.length_append, List.length_cons, List.length_nil, List.length_drop, List.length_take, List.length_eraseIdx, List.length_replicate, ByteArray.size_extract, bs_app, maxI_eq] <;> omega))))
              | ((with_reducible refine iteB_ltf ?_ ?_); · (first | (with_reducible assumption) | (first | omega | (simp only [castL_self, seg_len, List.length_append, List.length_cons, List.length_nil, List.length_drop, List.length_take, List.length_eraseIdx, List.length_replicate, ByteArray.size_extract, bs_app, maxI_eq] <;> omega))))
              | ((with_reducible refine iteB_let ?_ ?_); · (first | (with_reducible assumption) | (first | omega | (simp only [castL_self, seg_len, List.length_append, List.length_cons, List.length_nil, List.length_drop, List.length_take, List.length_eraseIdx, List.length_replicate, ByteArray.size_extract, bs_app, maxI_eq] <;> omega))))
              | ((with_reducible refine iteB_lef ?_ ?_); · (first | (with_reducible assumption) | (first | omega | (simp only [castL_self, seg_len, List.length_append, List.length_cons, List.length_nil, List.length_drop, List.length_take, List.length_eraseIdx, List.length_replicate, ByteArray.size_extract, bs_app, maxI_eq] <;> omega))))
              | ((with_reducible refine iteB_dt ?_ ?_); · (first | (with_reducible assumption) | (first | omega | (simp only [castL_self, seg_len, List.length_append, List.length_cons, List.length_nil, List.length_drop, List.length_take, List.length_eraseIdx, List.length_replicate, ByteArray.size_extract, bs_app, maxI_eq] <;> omega))))
              | ((with_reducible refine iteB_df ?_ ?_); · (first | (with_reducible assumption) | (first | omega | (simp only [castL_self, seg_len, List.length_append, List.length_cons, List.length_nil, List.length_drop, List.length_take, List.length_eraseIdx, List.length_replicate, ByteArray.size_extract, bs_app, maxI_eq] <;> omega))))
              | ((with_reducible refine andB_i ?_ ?_); · (first | (with_reducible assumption) | (with_reducible exact decide_eq_true rfl) | (with_reducible exact sEq_self _) | ((with_reducible refine eqOK_i ?_); kernel_rfl)))
              | ((with_reducible refine iteB_t ?_ ?_); · (first | (with_reducible assumption) | (with_reducible exact decide_eq_true rfl) | (with_reducible exact sEq_self _) | ((with_reducible refine eqOK_i ?_); kernel_rfl)))
              | ((with_reducible refine iteB_f ?_ ?_); · (first | (with_reducible assumption) | (with_reducible exact decide_eq_true rfl) | (with_reducible exact sEq_self _) | ((with_reducible refine eqOK_i ?_); kernel_rfl)))
              | (refine ⟨⟨i + 1, hlt⟩, ?_, rfl, ?_⟩)
              | (with_reducible refine CD.wk_au ?_)
              | (with_reducible refine andB_in ?_ ?_)
              | (with_reducible refine andB_lt ?_ ?_)
              | (with_reducible refine andB_le ?_ ?_)
              | (with_reducible refine andB_d ?_ ?_)
              | (with_reducible refine andB_i ?_ ?_)
              | (with_reducible refine iteB_lts (fun hB => ?_) (fun hB => ?_))
              | (with_reducible refine iteB_les (fun hB => ?_) (fun hB => ?_))
              | (with_reducible refine iteB_ds (fun hB => ?_) (fun hB => ?_))
              | (with_reducible refine iteB_s (fun hB => ?_) (fun hB => ?_))
              | (with_reducible refine CD.wk_as ?_)
              | (with_reducible refine And.intro ?_ ?_))
    all_goals (conv => whnf)
    all_goals (try dsimp only)
    all_goals (try simp only [Nat.succ_eq_add_one, Nat.le_eq, castL_self])
    all_goals (try omega)
    all_goals trace_state
  · have he : i = (runN most acts n).length := Nat.le_antisymm hi hge
    subst he
    repeat' (conv => whnf
             first
              | (with_reducible exact True.intro)
              | (with_reducible rfl)
              | (with_reducible exact castL_self _ _)
              | ((with_reducible refine V.same_t ?_); exact rfl)
              | (with_reducible refine iteB_n ?_)
              | (with_reducible refine iteB_ct ?_)
              | (with_reducible refine iteB_cf ?_)
              | ((with_reducible refine andB_room ?_ ?_ ?_); (· kernel_rfl); (· (first | omega | (simp only [castL_self, seg_len, List.length_append, List.length_cons, List.length_nil, List.length_drop, List.length_take, List.length_eraseIdx, List.length_replicate, ByteArray.size_extract, bs_app, maxI_eq] <;> omega))))
              | ((with_reducible refine andB_in ?_ ?_); · (first | omega | (simp only [castL_self, seg_len, List.length_append, List.length_cons, List.length_nil, List.length_drop, List.length_take, List.length_eraseIdx, List.length_replicate, ByteArray.size_extract, bs_app, maxI_eq] <;> omega)))
              | ((with_reducible refine andB_d ?_ ?_); · (first | (with_reducible assumption) | (first | omega | (simp only [castL_self, seg_len, List.length_append, List.length_cons, List.length_nil, List.length_drop, List.length_take, List.length_eraseIdx, List.length_replicate, ByteArray.size_extract, bs_app, maxI_eq] <;> omega))))
              | ((with_reducible refine andB_lt ?_ ?_); · (first | (with_reducible assumption) | (first | omega | (simp only [castL_self, seg_len, List.length_append, List.length_cons, List.length_nil, List.length_drop, List.length_take, List.length_eraseIdx, List.length_replicate, ByteArray.size_extract, bs_app, maxI_eq] <;> omega))))
              | ((with_reducible refine andB_le ?_ ?_); · (first | (with_reducible assumption) | (first | omega | (simp only [castL_self, seg_len, List.length_append, List.length_cons, List.length_nil, List.length_drop, List.length_take, List.length_eraseIdx, List.length_replicate, ByteArray.size_extract, bs_app, maxI_eq] <;> omega))))
              | ((with_reducible refine iteB_ltt ?_ ?_); · (first | (with_reducible assumption) | (first | omega | (simp only [castL_self, seg_len, List.length_append, List.length_cons, List.length_nil, List.length_drop, List.length_take, List.length_eraseIdx, List.length_replicate, ByteArray.size_extract, bs_app, maxI_eq] <;> omega))))
              | ((with_reducible refine iteB_ltf ?_ ?_); · (first | (with_reducible assumption) | (first | omega | (simp only [castL_self, seg_len, List.length_append, List.length_cons, List.length_nil, List.length_drop, List.length_take, List.length_eraseIdx, List.length_replicate, ByteArray.size_extract, bs_app, maxI_eq] <;> omega))))
              | ((with_reducible refine iteB_let ?_ ?_); · (first | (with_reducible assumption) | (first | omega | (simp only [castL_self, seg_len, List.length_append, List.length_cons, List.length_nil, List.length_drop, List.length_take, List.length_eraseIdx, List.length_replicate, ByteArray.size_extract, bs_app, maxI_eq] <;> omega))))
              | ((with_reducible refine iteB_lef ?_ ?_); · (first | (with_reducible assumption) | (first | omega | (simp only [castL_self, seg_len, List.length_append, List.length_cons, List.length_nil, List.length_drop, List.length_take, List.length_eraseIdx, List.length_replicate, ByteArray.size_extract, bs_app, maxI_eq] <;> omega))))
              | ((with_reducible refine iteB_dt ?_ ?_); · (first | (with_reducible assumption) | (first | omega | (simp only [castL_self, seg_len, List.length_append, List.length_cons, List.length_nil, List.length_drop, List.length_take, List.length_eraseIdx, List.length_replicate, ByteArray.size_extract, bs_app, maxI_eq] <;> omega))))
              | ((with_reducible refine iteB_df ?_ ?_); · (first | (with_reducible assumption) | (first | omega | (simp only [castL_self, seg_len, List.length_append, List.length_cons, List.length_nil, List.length_drop, List.length_take, List.length_eraseIdx, List.length_replicate, ByteArray.size_extract, bs_app, maxI_eq] <;> omega))))
              | ((with_reducible refine andB_i ?_ ?_); · (first | (with_reducible assumption) | (with_reducible exact decide_eq_true rfl) | (with_reducible exact sEq_self _) | ((with_reducible refine eqOK_i ?_); kernel_rfl)))
              | ((with_reducible refine iteB_t ?_ ?_); · (first | (with_reducible assumption) | (with_reducible exact decide_eq_true rfl) | (with_reducible exact sEq_self _) | ((with_reducible refine eqOK_i ?_); kernel_rfl)))
              | ((with_reducible refine iteB_f ?_ ?_); · (first | (with_reducible assumption) | (with_reducible exact decide_eq_true rfl) | (with_reducible exact sEq_self _) | ((with_reducible refine eqOK_i ?_); kernel_rfl)))
              | (with_reducible refine CD.wk_au ?_)
              | (with_reducible refine andB_in ?_ ?_)
              | (with_reducible refine andB_lt ?_ ?_)
              | (with_reducible refine andB_le ?_ ?_)
              | (with_reducible refine andB_d ?_ ?_)
              | (with_reducible refine andB_i ?_ ?_)
              | (with_reducible refine iteB_lts (fun hB => ?_) (fun hB => ?_))
              | (with_reducible refine iteB_les (fun hB => ?_) (fun hB => ?_))
              | (with_reducible refine iteB_ds (fun hB => ?_) (fun hB => ?_))
              | (with_reducible refine iteB_s (fun hB => ?_) (fun hB => ?_))
              | (with_reducible refine CD.wk_as ?_)
              | (with_reducible refine And.intro ?_ ?_))
    all_goals (conv => whnf)
    all_goals (try dsimp only)
    all_goals (try simp only [Nat.succ_eq_add_one, Nat.le_eq, castL_self])
    all_goals (try omega)
    all_goals trace_state
noncomputable def tabW30 : Tab := oneTab 11 true30F noTab
theorem tabW30_ok : TabOK Try.prog tabW30 := oneTab_ok (true30F_ok works30_at) noTab_ok
theorem netPlays_at (ha : acts.length ≤ 9223372036854775807) (hw : ∀ i, i < acts.length → 0 ≤ (rowAct acts i).1) : PureAt Try.prog 3 [.lst actE acts false, .int .i64 most] (.bool true) := by
  by_cases hm : 1 ≤ most ∧ most ≤ 100000
  · refine pure_of_loops tabW30_ok (fuel := 3) (d := 8) [⟨5, [(0, 0), (1, 1)], npC acts most 0, .leaf (.exit 0) (npC acts most (min acts.length 100))⟩, ⟨10, [(0, 0), (1, 1), (2, 2), (3, 3)], nqC acts most (min acts.length 100) 0, .leaf (.exit 2) (nqC acts most (min acts.length 100) (runN most acts (min acts.length 100)).length)⟩] ?_ ?_
    · intro N l hl
      rcases List.mem_cons.1 hl with rfl | hl
      · exact np_loop1 acts most hm hw N
      · rw [List.mem_singleton.1 hl]
        exact np_loop2 acts most _ hm N
    · have h0 := runN_0 most acts
      repeat' (conv => whnf
               first
                | (with_reducible exact True.intro)
                | (with_reducible rfl)
                | (with_reducible exact castL_self _ _)
                | ((with_reducible refine V.same_t ?_); exact rfl)
                | (with_reducible refine iteB_n ?_)
                | (with_reducible refine iteB_ct ?_)
                | (with_reducible refine iteB_cf ?_)
                | ((with_reducible refine andB_room ?_ ?_ ?_); (· kernel_rfl); (· (first | omega | (simp only [castL_self, seg_len, List.length_append, List.length_cons, List.length_nil, List.length_drop, List.length_take, List.length_eraseIdx, List.length_replicate, ByteArray.size_extract, bs_app, maxI_eq] <;> omega))))
                | ((with_reducible refine andB_in ?_ ?_); · (first | omega | (simp only [castL_self, seg_len, List.length_append, List.length_cons, List.length_nil, List.length_drop, List.length_take, List.length_eraseIdx, List.length_replicate, ByteArray.size_extract, bs_app, maxI_eq] <;> omega)))
                | ((with_reducible refine andB_d ?_ ?_); · (first | (with_reducible assumption) | (first | omega | (simp only [castL_self, seg_len, List.length_append, List.length_cons, List.length_nil, List.length_drop, List.length_take, List.length_eraseIdx, List.length_replicate, ByteArray.size_extract, bs_app, maxI_eq] <;> omega))))
                | ((with_reducible refine andB_lt ?_ ?_); · (first | (with_reducible assumption) | (first | omega | (simp only [castL_self, seg_len, List.length_append, List.length_cons, List.length_nil, List.length_drop, List.length_take, List.length_eraseIdx, List.length_replicate, ByteArray.size_extract, bs_app, maxI_eq] <;> omega))))
                | ((with_reducible refine andB_le ?_ ?_); · (first | (with_reducible assumption) | (first | omega | (simp only [castL_self, seg_len, List.length_append, List.length_cons, List.length_nil, List.length_drop, List.length_take, List.length_eraseIdx, List.length_replicate, ByteArray.size_extract, bs_app, maxI_eq] <;> omega))))
                | ((with_reducible refine iteB_ltt ?_ ?_); · (first | (with_reducible assumption) | (first | omega | (simp only [castL_self, seg_len, List.length_append, List.length_cons, List.length_nil, List.length_drop, List.length_take, List.length_eraseIdx, List.length_replicate, ByteArray.size_extract, bs_app, maxI_eq] <;> omega))))
                | ((with_reducible refine iteB_ltf ?_ ?_); · (first | (with_reducible assumption) | (first | omega | (simp only [castL_self, seg_len, List.length_append, List.length_cons, List.length_nil, List.length_drop, List.length_take, List.length_eraseIdx, List.length_replicate, ByteArray.size_extract, bs_app, maxI_eq] <;> omega))))
                | ((with_reducible refine iteB_let ?_ ?_); · (first | (with_reducible assumption) | (first | omega | (simp only [castL_self, seg_len, List.length_append, List.length_cons, List.length_nil, List.length_drop, List.length_take, List.length_eraseIdx, List.length_replicate, ByteArray.size_extract, bs_app, maxI_eq] <;> omega))))
                | ((with_reducible refine iteB_lef ?_ ?_); · (first | (with_reducible assumption) | (first | omega | (simp only [castL_self, seg_len, List.length_append, List.length_cons, List.length_nil, List.length_drop, List.length_take, List.length_eraseIdx, List.length_replicate, ByteArray.size_extract, bs_app, maxI_eq] <;> omega))))
                | ((with_reducible refine iteB_dt ?_ ?_); · (first | (with_reducible assumption) | (first | omega | (simp only [castL_self, seg_len, List.length_append, List.length_cons, List.length_nil, List.length_drop, List.length_take, List.length_eraseIdx, List.length_replicate, ByteArray.size_extract, bs_app, maxI_eq] <;> omega))))
                | ((with_reducible refine iteB_df ?_ ?_); · (first | (with_reducible assumption) | (first | omega | (simp only [castL_self, seg_len, List.length_append, List.length_cons, List.length_nil, List.length_drop, List.length_take, List.length_eraseIdx, List.length_replicate, ByteArray.size_extract, bs_app, maxI_eq] <;> omega))))
                | ((with_reducible refine andB_i ?_ ?_); · (first | (with_reducible assumption) | (with_reducible exact decide_eq_true rfl) | (with_reducible exact sEq_self _) | ((with_reducible refine eqOK_i ?_); kernel_rfl)))
                | ((with_reducible refine iteB_t ?_ ?_); · (first | (with_reducible assumption) | (with_reducible exact decide_eq_true rfl) | (with_reducible exact sEq_self _) | ((with_reducible refine eqOK_i ?_); kernel_rfl)))
                | ((with_reducible refine iteB_f ?_ ?_); · (first | (with_reducible assumption) | (with_reducible exact decide_eq_true rfl) | (with_reducible exact sEq_self _) | ((with_reducible refine eqOK_i ?_); kernel_rfl)))
                | (with_reducible refine andB_in ?_ ?_)
                | (with_reducible refine andB_lt ?_ ?_)
                | (with_reducible refine andB_le ?_ ?_)
                | (with_reducible refine andB_d ?_ ?_)
                | (with_reducible refine andB_i ?_ ?_)
                | (with_reducible refine iteB_lts (fun hB => ?_) (fun hB => ?_))
                | (with_reducible refine iteB_les (fun hB => ?_) (fun hB => ?_))
                | (with_reducible refine iteB_ds (fun hB => ?_) (fun hB => ?_))
                | (with_reducible refine iteB_s (fun hB => ?_) (fun hB => ?_))
                | (with_reducible refine CD.wk_as ?_)
                | (with_reducible refine And.intro ?_ ?_))
      all_goals (conv => whnf)
      all_goals (try dsimp only)
      all_goals (try simp only [Nat.succ_eq_add_one, Nat.le_eq, castL_self])
      all_goals (try omega)
      all_goals first
        | (rw [h0]; rfl)
        | trace_state
  · refine pure_of_W0 (tab := tabW30) (fuel := 3) (d := 8) tabW30_ok ?_
    repeat' (conv => whnf
             first
              | (with_reducible exact True.intro)
              | (with_reducible rfl)
              | (with_reducible exact castL_self _ _)
              | ((with_reducible refine V.same_t ?_); exact rfl)
              | (with_reducible refine iteB_n ?_)
              | (with_reducible refine iteB_ct ?_)
              | (with_reducible refine iteB_cf ?_)
              | ((with_reducible refine andB_room ?_ ?_ ?_); (· kernel_rfl); (· (first | omega | (simp only [castL_self, seg_len, List.length_append, List.length_cons, List.length_nil, List.length_drop, List.length_take, List.length_eraseIdx, List.length_replicate, ByteArray.size_extract, bs_app, maxI_eq] <;> omega))))
              | ((with_reducible refine andB_in ?_ ?_); · (first | omega | (simp only [castL_self, seg_len, List.length_append, List.length_cons, List.length_nil, List.length_drop, List.length_take, List.length_eraseIdx, List.length_replicate, ByteArray.size_extract, bs_app, maxI_eq] <;> omega)))
              | ((with_reducible refine andB_d ?_ ?_); · (first | (with_reducible assumption) | (first | omega | (simp only [castL_self, seg_len, List.length_append, List.length_cons, List.length_nil, List.length_drop, List.length_take, List.length_eraseIdx, List.length_replicate, ByteArray.size_extract, bs_app, maxI_eq] <;> omega))))
              | ((with_reducible refine andB_lt ?_ ?_); · (first | (with_reducible assumption) | (first | omega | (simp only [castL_self, seg_len, List.length_append, List.length_cons, List.length_nil, List.length_drop, List.length_take, List.length_eraseIdx, List.length_replicate, ByteArray.size_extract, bs_app, maxI_eq] <;> omega))))
              | ((with_reducible refine andB_le ?_ ?_); · (first | (with_reducible assumption) | (first | omega | (simp only [castL_self, seg_len, List.length_append, List.length_cons, List.length_nil, List.length_drop, List.length_take, List.length_eraseIdx, List.length_replicate, ByteArray.size_extract, bs_app, maxI_eq] <;> omega))))
              | ((with_reducible refine iteB_ltt ?_ ?_); · (first | (with_reducible assumption) | (first | omega | (simp only [castL_self, seg_len, List.length_append, List.length_cons, List.length_nil, List.length_drop, List.length_take, List.length_eraseIdx, List.length_replicate, ByteArray.size_extract, bs_app, maxI_eq] <;> omega))))
              | ((with_reducible refine iteB_ltf ?_ ?_); · (first | (with_reducible assumption) | (first | omega | (simp only [castL_self, seg_len, List.length_append, List.length_cons, List.length_nil, List.length_drop, List.length_take, List.length_eraseIdx, List.length_replicate, ByteArray.size_extract, bs_app, maxI_eq] <;> omega))))
              | ((with_reducible refine iteB_let ?_ ?_); · (first | (with_reducible assumption) | (first | omega | (simp only [castL_self, seg_len, List.length_append, List.length_cons, List.length_nil, List.length_drop, List.length_take, List.length_eraseIdx, List.length_replicate, ByteArray.size_extract, bs_app, maxI_eq] <;> omega))))
              | ((with_reducible refine iteB_lef ?_ ?_); · (first | (with_reducible assumption) | (first | omega | (simp only [castL_self, seg_len, List.length_append, List.length_cons, List.length_nil, List.length_drop, List.length_take, List.length_eraseIdx, List.length_replicate, ByteArray.size_extract, bs_app, maxI_eq] <;> omega))))
              | ((with_reducible refine iteB_dt ?_ ?_); · (first | (with_reducible assumption) | (first | omega | (simp only [castL_self, seg_len, List.length_append, List.length_cons, List.length_nil, List.length_drop, List.length_take, List.length_eraseIdx, List.length_replicate, ByteArray.size_extract, bs_app, maxI_eq] <;> omega))))
              | ((with_reducible refine iteB_df ?_ ?_); · (first | (with_reducible assumption) | (first | omega | (simp only [castL_self, seg_len, List.length_append, List.length_cons, List.length_nil, List.length_drop, List.length_take, List.length_eraseIdx, List.length_replicate, ByteArray.size_extract, bs_app, maxI_eq] <;> omega))))
              | ((with_reducible refine andB_i ?_ ?_); · (first | (with_reducible assumption) | (with_reducible exact decide_eq_true rfl) | (with_reducible exact sEq_self _) | ((with_reducible refine eqOK_i ?_); kernel_rfl)))
              | ((with_reducible refine iteB_t ?_ ?_); · (first | (with_reducible assumption) | (with_reducible exact decide_eq_true rfl) | (with_reducible exact sEq_self _) | ((with_reducible refine eqOK_i ?_); kernel_rfl)))
              | ((with_reducible refine iteB_f ?_ ?_); · (first | (with_reducible assumption) | (with_reducible exact decide_eq_true rfl) | (with_reducible exact sEq_self _) | ((with_reducible refine eqOK_i ?_); kernel_rfl)))
              | (with_reducible refine andB_in ?_ ?_)
              | (with_reducible refine andB_lt ?_ ?_)
              | (with_reducible refine andB_le ?_ ?_)
              | (with_reducible refine andB_d ?_ ?_)
              | (with_reducible refine andB_i ?_ ?_)
              | (with_reducible refine iteB_lts (fun hB => ?_) (fun hB => ?_))
              | (with_reducible refine iteB_les (fun hB => ?_) (fun hB => ?_))
              | (with_reducible refine iteB_ds (fun hB => ?_) (fun hB => ?_))
              | (with_reducible refine iteB_s (fun hB => ?_) (fun hB => ?_))
              | (with_reducible refine CD.wk_as ?_)
              | (with_reducible refine And.intro ?_ ?_))
    all_goals (conv => whnf)
    all_goals (try dsimp only)
    all_goals (try simp only [Nat.succ_eq_add_one, Nat.le_eq, castL_self])
    all_goals (try omega)
    all_goals rfl
end
end Go.Proofs.Ytlkbmjdgfbciaaa
