/-
  NetPlays: its first loop. Conditions: numbers that fit their kinds, texts of a machine's size.
-/
import Derived.Test.YtlkbmjdgfbciaaaNetLaw
import Derived.Test.YtlkbmjdgfbciaaaSymAu
import Derived.Test.YtlkbmjdgfbciaaaProg
import Derived.KernelRfl
namespace Go.Proofs.Ytlkbmjdgfbciaaa
open Go.Sym
set_option linter.unusedVariables false
set_option linter.unusedSimpArgs false
set_option maxRecDepth 100000
set_option maxHeartbeats 4000000

theorem seg_self {α : Type} (L : List α) : seg L 0 L.length = L := seg_all L rfl
section
variable (acts : List ActR) (most : Int)
noncomputable def npH (F : List FrR) : List (Nat × EObj) := [(0, .cells [.int .i64 most, .rs 2 0 F.length F.length false 3] 0 false), (1, .cells [.int .i64 most, .rs 3 0 F.length F.length false 3] 0 false), (2, .rows frE F 0 false), (3, .rows frE F 0 false)]
noncomputable def npC (i : Nat) : CD := ⟨88, [(0, .lst actE acts false), (5, .ptr 0 0), (6, .ptr 1 0), (7, .int .i64 (i : Int))], [], npH most (runN most acts i), 4⟩
theorem np_loop1 (hm : 1 ≤ most ∧ most ≤ 100000) (hw : ∀ i, i < acts.length → 0 ≤ (rowAct acts i).1) (N : Nat) : LpD.ok Try.prog N 0 (bodyOf Try.prog 3) ⟨5, [(0, 0), (1, 1)], npC acts most 0, .leaf (.exit 0) (npC acts most (min acts.length 100))⟩ := by
  refine LpD.ok_one (b := bodyAt Try.prog 3 5) rfl (loop_W noTab_ok (fuel := 3) (d := 8) (X := { i : Nat // i ≤ min acts.length 100 }) (fun x => npC acts most x.1) (fun x => min acts.length 100 - x.1)
    (fun _ => .leaf (.exit 0) (npC acts most (min acts.length 100))) (fun _ => noLpW) (fun _ => noLp) (fun _ => noLp_ad) (fun _ => noLp_ok _) ?_ ⟨0, Nat.zero_le _⟩)
  rintro ⟨i, hi⟩
  dsimp only
  have hg := goodN_run (most := most) (by omega) acts i
  rcases Nat.lt_or_ge i (min acts.length 100) with hlt | hge
  · obtain ⟨a, ha⟩ : ∃ a : ActR, @Eq ActR a (Sym.rowAt actE acts (Int.toNat (i : Int))) := ⟨_, rfl⟩
    obtain ⟨w, ew⟩ : ∃ w : Int, @Eq Int w (Sym.rowAt actE acts (Int.toNat (i : Int))).1 := ⟨_, rfl⟩
    obtain ⟨p, ep⟩ : ∃ p : Int, @Eq Int p (Sym.rowAt actE acts (Int.toNat (i : Int))).2.2.2.2 := ⟨_, rfl⟩
    obtain ⟨f, ef⟩ : ∃ f : Int, @Eq Int f (Sym.rowAt actE acts (Int.toNat (i : Int))).2.1 := ⟨_, rfl⟩
    obtain ⟨t, et⟩ : ∃ t : Int, @Eq Int t (Sym.rowAt actE acts (Int.toNat (i : Int))).2.2.1 := ⟨_, rfl⟩
    obtain ⟨s, es⟩ : ∃ s : ByteArray, @Eq ByteArray s (Sym.rowAt actE acts (Int.toNat (i : Int))).2.2.2.1 := ⟨_, rfl⟩
    have eM := maxI_eq (Sym.rowAt actE acts (Int.toNat (i : Int))).2.1 (Sym.rowAt actE acts (Int.toNat (i : Int))).2.2.1
    have hw' : 0 ≤ w := by rw [ew]; exact hw i (by omega)
    have hs : runN most acts (i + 1) = stepN most (runN most acts i) a := by rw [ha]; exact runN_succ most acts i
    have hmx := hg.2
    by_cases h34 : w % 7 = 3 ∨ w % 7 = 4
    · by_cases hin : inL (runN most acts i) p
      · have hs' : runN most acts (i + 1) = (runN most acts i).eraseIdx (Int.toNat (Sym.rowAt actE acts (Int.toNat (i : Int))).2.2.2.2) := by
          rw [hs]; unfold stepN; subst ha ew ep; exact (if_pos h34).trans (if_pos hin)
        obtain ⟨i1, i2⟩ := hin
        have e1 : Int.toNat ((Sym.rowAt actE acts (Int.toNat (i : Int))).2.2.2.2 + 1) = Int.toNat (Sym.rowAt actE acts (Int.toNat (i : Int))).2.2.2.2 + 1 := by omega
        have e2 : Int.toNat (Sym.rowAt actE acts (Int.toNat (i : Int))).2.2.2.2 < (runN most acts i).length := by omega
        repeat' (conv => whnf
                 first
                  | (with_reducible exact True.intro)
                  | (with_reducible rfl)
                  | (with_reducible exact castL_self _ _)
                  | ((with_reducible refine V.same_t ?_); exact rfl)
                  | (with_reducible refine iteB_n ?_)
                  | (with_reducible refine iteB_ct ?_)
                  | (with_reducible refine iteB_cf ?_)
                  | ((with_reducible refine andB_room ?_ ?_ ?_); (· kernel_rfl); (· (first | omega | (simp only [castL_self, seg_len, List.length_append, List.length_cons, List.length_nil, List.length_drop, List.length_take, List.length_eraseIdx, List.length_replicate, ByteArray.size_extract, bs_app, maxI_eq] <;> omega))))
                  | ((with_reducible refine andB_in ?_ ?_); · (first | omega | (simp only [castL_self, seg_len, List.length_append, List.length_cons, List.length_nil, List.length_drop, List.length_take, List.length_eraseIdx, List.length_replicate, ByteArray.size_extract, bs_app, maxI_eq] <;> omega)))
                  | ((with_reducible refine andB_d ?_ ?_); · (first | (with_reducible assumption) | (first | omega | (simp only [castL_self, seg_len, List.length_append, List.length_cons, List.length_nil, List.length_drop, List.length_take, List.length_eraseIdx, List.length_replicate, ByteArray.size_extract, bs_app, maxI_eq] <;> omega))))
                  | ((with_reducible refine andB_lt ?_ ?_); · (first | (with_reducible assumption) | (first | omega | (simp only [castL_self, seg_len, List.length_append, List.length_cons, List.length_nil, List.length_drop, List.length_take, List.length_eraseIdx, List.length_replicate, ByteArray.size_extract, bs_app, maxI_eq] <;> omega))))
                  | ((with_reducible refine andB_le ?_ ?_); · (first | (with_reducible assumption) | (first | omega | (simp only [castL_self, seg_len, List.length_append, List.length_cons, List.length_nil, List.length_drop, List.length_take, List.length_eraseIdx, List.length_replicate, ByteArray.size_extract, bs_app, maxI_eq] <;> omega))))
                  | ((with_reducible refine iteB_ltt ?_ ?_); · (first | (with_reducible assumption) | (first | omega | (simp only [castL_self, seg_len, List.length_append, List.length_cons, List.length_nil, List.length_drop, List.length_take, List.length_eraseIdx, List.length_replicate, ByteArray.size_extract, bs_app, maxI_eq] <;> omega))))
                  | ((with_reducible refine iteB_ltf ?_ ?_); · (first | (with_reducible assumption) | (first | omega | (simp only [castL_self, seg_len, List.length_append, List.length_cons, List.length_nil, List.length_drop, List.length_take, List.length_eraseIdx, List.length_replicate, ByteArray.size_extract, bs_app, maxI_eq] <;> omega))))
                  | ((with_reducible refine iteB_let ?_ ?_); · (first | (with_reducible assumption) | (first | omega | (simp only [castL_self, seg_len, List.length_append, List.length_cons, List.length_nil, List.length_drop, List.length_take, List.length_eraseIdx, List.length_replicate, ByteArray.size_extract, bs_app, maxI_eq] <;> omega))))
                  | ((with_reducible refine iteB_lef ?_ ?_); · (first | (with_reducible assumption) | (first | omega | (simp only [castL_self, seg_len, List.length_append, List.length_cons, List.length_nil, List.length_drop, List.length_take, List.length_eraseIdx, List.length_replicate, ByteArray.size_extract, bs_app, maxI_eq] <;> omega))))
                  | ((with_reducible refine iteB_dt ?_ ?_); · (first | (with_reducible assumption) | (first | omega | (simp only [castL_self, seg_len, List.length_append, List.length_cons, List.length_nil, List.length_drop, List.length_take, List.length_eraseIdx, List.length_replicate, ByteArray.size_extract, bs_app, maxI_eq] <;> omega))))
                  | ((with_reducible refine iteB_df ?_ ?_); · (first | (with_reducible assumption) | (first | omega | (simp only [castL_self, seg_len, List.length_append, List.length_cons, List.length_nil, List.length_drop, List.length_take, List.length_eraseIdx, List.length_replicate, ByteArray.size_extract, bs_app, maxI_eq] <;> omega))))
                  | ((with_reducible refine andB_i ?_ ?_); · (first | (with_reducible assumption) | (with_reducible exact decide_eq_true rfl) | (with_reducible exact sEq_self _) | ((with_reducible refine eqOK_i ?_); kernel_rfl)))
                  | ((with_reducible refine iteB_t ?_ ?_); · (first | (with_reducible assumption) | (with_reducible exact decide_eq_true rfl) | (with_reducible exact sEq_self _) | ((with_reducible refine eqOK_i ?_); kernel_rfl)))
                  | ((with_reducible refine iteB_f ?_ ?_); · (first | (with_reducible assumption) | (with_reducible exact decide_eq_true rfl) | (with_reducible exact sEq_self _) | ((with_reducible refine eqOK_i ?_); kernel_rfl)))
                  | (refine ⟨⟨i + 1, hlt⟩, ?_, rfl, ?_⟩)
                  | (with_reducible refine CD.wk_au ?_)
                  | (with_reducible refine andB_in ?_ ?_)
                  | (with_reducible refine andB_lt ?_ ?_)
                  | (with_reducible refine andB_le ?_ ?_)
                  | (with_reducible refine andB_d ?_ ?_)
                  | (with_reducible refine andB_i ?_ ?_)
                  | (with_reducible refine iteB_lts (fun hB => ?_) (fun hB => ?_))
                  | (with_reducible refine iteB_les (fun hB => ?_) (fun hB => ?_))
                  | (with_reducible refine iteB_ds (fun hB => ?_) (fun hB => ?_))
                  | (with_reducible refine iteB_s (fun hB => ?_) (fun hB => ?_))
                  | (with_reducible refine CD.wk_as ?_)
                  | (with_reducible refine And.intro ?_ ?_))
        all_goals (conv => whnf)
        all_goals (try dsimp only)
        all_goals (try simp only [Nat.succ_eq_add_one, Nat.le_eq, castL_self])
        all_goals (try omega)
        all_goals (try dsimp only)
        all_goals (try simp only [castL_self, seg_self, Nat.zero_add, Nat.sub_zero, Nat.add_zero, List.nil_append])
        all_goals first
          | omega
          | (simp only [hs', castL_self, seg_len, List.length_append, List.length_cons, List.length_nil, List.length_drop, List.length_take, List.length_eraseIdx] <;> (try split) <;> omega)
          | (rw [hs']; done)
          | (rw [hs']; rfl)
          | (rw [hs']; rfl)
          | (rw [hs', e1]; exact erase_in _ _ e2)
          | (rw [hs', e1]; exact erase_two _ _ e2)
          | trace_state
      · have hs' : runN most acts (i + 1) = runN most acts i := by
          rw [hs]; unfold stepN; subst ha ew ep; exact (if_pos h34).trans (if_neg hin)
        have hin : ¬ (0 ≤ p ∧ p < ((runN most acts i).length : Int)) := hin
        repeat' (conv => whnf
                 first
                  | (with_reducible exact True.intro)
                  | (with_reducible rfl)
                  | (with_reducible exact castL_self _ _)
                  | ((with_reducible refine V.same_t ?_); exact rfl)
                  | (with_reducible refine iteB_n ?_)
                  | (with_reducible refine iteB_ct ?_)
                  | (with_reducible refine iteB_cf ?_)
                  | ((with_reducible refine andB_room ?_ ?_ ?_); (· kernel_rfl); (· (first | omega | (simp only [castL_self, seg_len, List.length_append, List.length_cons, List.length_nil, List.length_drop, List.length_take, List.length_eraseIdx, List.length_replicate, ByteArray.size_extract, bs_app, maxI_eq] <;> omega))))
                  | ((with_reducible refine andB_in ?_ ?_); · (first | omega | (simp only [castL_self, seg_len, List.length_append, List.length_cons, List.length_nil, List.length_drop, List.length_take, List.length_eraseIdx, List.length_replicate, ByteArray.size_extract, bs_app, maxI_eq] <;> omega)))
                  | ((with_reducible refine andB_d ?_ ?_); · (first | (with_reducible assumption) | (first | omega | (simp only [castL_self, seg_len, List.length_append, List.length_cons, List.length_nil, List.length_drop, List.length_take, List.length_eraseIdx, List.length_replicate, ByteArray.size_extract, bs_app, maxI_eq] <;> omega))))
                  | ((with_reducible refine andB_lt ?_ ?_); · (first | (with_reducible assumption) | (first | omega | (simp only [castL_self, seg_len, List.length_append, List.length_cons, List.length_nil, List.length_drop, List.length_take, List.length_eraseIdx, List.length_replicate, ByteArray.size_extract, bs_app, maxI_eq] <;> omega))))
                  | ((with_reducible refine andB_le ?_ ?_); · (first | (with_reducible assumption) | (first | omega | (simp only [castL_self, seg_len, List.length_append, List.length_cons, List.length_nil, List.length_drop, List.length_take, List.length_eraseIdx, List.length_replicate, ByteArray.size_extract, bs_app, maxI_eq] <;> omega))))
                  | ((with_reducible refine iteB_ltt ?_ ?_); · (first | (with_reducible assumption) | (first | omega | (simp only [castL_self, seg_len, List.length_append, List.length_cons, List.length_nil, List.length_drop, List.length_take, List.length_eraseIdx, List.length_replicate, ByteArray.size_extract, bs_app, maxI_eq] <;> omega))))
                  | ((with_reducible refine iteB_ltf ?_ ?_); · (first | (with_reducible assumption) | (first | omega | (simp only [castL_self, seg_len, List.length_append, List.length_cons, List.length_nil, List.length_drop, List.length_take, List.length_eraseIdx, List.length_replicate, ByteArray.size_extract, bs_app, maxI_eq] <;> omega))))
                  | ((with_reducible refine iteB_let ?_ ?_); · (first | (with_reducible assumption) | (first | omega | (simp only [castL_self, seg_len, List.length_append, List.length_cons, List.length_nil, List.length_drop, List.length_take, List.length_eraseIdx, List.length_replicate, ByteArray.size_extract, bs_app, maxI_eq] <;> omega))))
                  | ((with_reducible refine iteB_lef ?_ ?_); · (first | (with_reducible assumption) | (first | omega | (simp only [castL_self, seg_len, List.length_append, List.length_cons, List.length_nil, List.length_drop, List.length_take, List.length_eraseIdx, List.length_replicate, ByteArray.size_extract, bs_app, maxI_eq] <;> omega))))
                  | ((with_reducible refine iteB_dt ?_ ?_); · (first | (with_reducible assumption) | (first | omega | (simp only [castL_self, seg_len, List.length_append, List.length_cons, List.length_nil, List.length_drop, List.length_take, List.length_eraseIdx, List.length_replicate, ByteArray.size_extract, bs_app, maxI_eq] <;> omega))))
                  | ((with_reducible refine iteB_df ?_ ?_); · (first | (with_reducible assumption) | (first | omega | (simp only [castL_self, seg_len, List.length_append, List.length_cons, List.length_nil, List.length_drop, List.length_take, List.length_eraseIdx, List.length_replicate, ByteArray.size_extract, bs_app, maxI_eq] <;> omega))))
                  | ((with_reducible refine andB_i ?_ ?_); · (first | (with_reducible assumption) | (with_reducible exact decide_eq_true rfl) | (with_reducible exact sEq_self _) | ((with_reducible refine eqOK_i ?_); kernel_rfl)))
                  | ((with_reducible refine iteB_t ?_ ?_); · (first | (with_reducible assumption) | (with_reducible exact decide_eq_true rfl) | (with_reducible exact sEq_self _) | ((with_reducible refine eqOK_i ?_); kernel_rfl)))
                  | ((with_reducible refine iteB_f ?_ ?_); · (first | (with_reducible assumption) | (with_reducible exact decide_eq_true rfl) | (with_reducible exact sEq_self _) | ((with_reducible refine eqOK_i ?_); kernel_rfl)))
                  | (refine ⟨⟨i + 1, hlt⟩, ?_, rfl, ?_⟩)
                  | (with_reducible refine CD.wk_au ?_)
                  | (with_reducible refine andB_in ?_ ?_)
                  | (with_reducible refine andB_lt ?_ ?_)
                  | (with_reducible refine andB_le ?_ ?_)
                  | (with_reducible refine andB_d ?_ ?_)
                  | (with_reducible refine andB_i ?_ ?_)
                  | (with_reducible refine iteB_lts (fun hB => ?_) (fun hB => ?_))
                  | (with_reducible refine iteB_les (fun hB => ?_) (fun hB => ?_))
                  | (with_reducible refine iteB_ds (fun hB => ?_) (fun hB => ?_))
                  | (with_reducible refine iteB_s (fun hB => ?_) (fun hB => ?_))
                  | (with_reducible refine CD.wk_as ?_)
                  | (with_reducible refine And.intro ?_ ?_))
        all_goals (conv => whnf)
        all_goals (try dsimp only)
        all_goals (try simp only [Nat.succ_eq_add_one, Nat.le_eq, castL_self])
        all_goals (try omega)
        all_goals (try dsimp only)
        all_goals (try simp only [castL_self, seg_self, Nat.zero_add, Nat.sub_zero, Nat.add_zero, List.nil_append])
        all_goals first
          | omega
          | (simp only [hs', castL_self, seg_len, List.length_append, List.length_cons, List.length_nil, List.length_drop, List.length_take, List.length_eraseIdx] <;> (try split) <;> omega)
          | (rw [hs']; done)
          | (rw [hs']; rfl)
          | (rw [hs']; rfl)
          | (rw [hs', e1]; exact erase_in _ _ e2)
          | (rw [hs', e1]; exact erase_two _ _ e2)
          | trace_state
    · by_cases h5 : w % 7 = 5
      · by_cases hin : inL (runN most acts i) p ∧ ((runN most acts i).length : Int) < most
        · have hs' : runN most acts (i + 1) = runN most acts i ++ [rowF (runN most acts i) (Int.toNat (Sym.rowAt actE acts (Int.toNat (i : Int))).2.2.2.2)] := by
            rw [hs]; unfold stepN; subst ha ew ep; exact (if_neg h34).trans ((if_pos h5).trans (if_pos hin))
          obtain ⟨⟨i1, i2⟩, i3⟩ := hin
          obtain ⟨k1, k2, k3, k4, k5, k6⟩ := hg.1 _ (rowF_mem (F := runN most acts i) (i := 0 + Int.toNat (Sym.rowAt actE acts (Int.toNat (i : Int))).2.2.2.2) (by omega))
          obtain ⟨x, ex⟩ : ∃ x : Int, @Eq Int x (Sym.rowAt frE (runN most acts i) (0 + Int.toNat (Sym.rowAt actE acts (Int.toNat (i : Int))).2.2.2.2)).1 := ⟨_, rfl⟩
          obtain ⟨y, ey⟩ : ∃ y : Int, @Eq Int y (Sym.rowAt frE (runN most acts i) (0 + Int.toNat (Sym.rowAt actE acts (Int.toNat (i : Int))).2.2.2.2)).2.1 := ⟨_, rfl⟩
          obtain ⟨z, ez⟩ : ∃ z : ByteArray, @Eq ByteArray z (Sym.rowAt frE (runN most acts i) (0 + Int.toNat (Sym.rowAt actE acts (Int.toNat (i : Int))).2.2.2.2)).2.2 := ⟨_, rfl⟩
          have k1 : 0 ≤ x := by rw [ex]; exact k1
          have k2 : x < 7 := by rw [ex]; exact k2
          have k3 : 0 ≤ y := by rw [ey]; exact k3
          have k4 : y < 7 := by rw [ey]; exact k4
          have k5 : ¬ x = y := by rw [ex, ey]; exact k5
          have k6 : ByteArray.size (Sym.rowAt frE (runN most acts i) (0 + Int.toNat (Sym.rowAt actE acts (Int.toNat (i : Int))).2.2.2.2)).2.2 ≤ 65535 := k6
          have eM2 := maxI_eq (Sym.rowAt frE (runN most acts i) (0 + Int.toNat (Sym.rowAt actE acts (Int.toNat (i : Int))).2.2.2.2)).1 (Sym.rowAt frE (runN most acts i) (0 + Int.toNat (Sym.rowAt actE acts (Int.toNat (i : Int))).2.2.2.2)).2.1
          repeat' (conv => whnf
                   first
                    | (with_reducible exact True.intro)
                    | (with_reducible rfl)
                    | (with_reducible exact castL_self _ _)
                    | ((with_reducible refine V.same_t ?_); exact rfl)
                    | (with_reducible refine iteB_n ?_)
                    | (with_reducible refine iteB_ct ?_)
                    | (with_reducible refine iteB_cf ?_)
                    | ((with_reducible refine andB_room ?_ ?_ ?_); (· kernel_rfl); (· (first | omega | (simp only [castL_self, seg_len, List.length_append, List.length_cons, List.length_nil, List.length_drop, List.length_take, List.length_eraseIdx, List.length_replicate, ByteArray.size_extract, bs_app, maxI_eq] <;> omega))))
                    | ((with_reducible refine andB_in ?_ ?_); · (first | omega | (simp only [castL_self, seg_len, List.length_append, List.length_cons, List.length_nil, List.length_drop, List.length_take, List.length_eraseIdx, List.length_replicate, ByteArray.size_extract, bs_app, maxI_eq] <;> omega)))
                    | ((with_reducible refine andB_d ?_ ?_); · (first | (with_reducible assumption) | (first | omega | (simp only [castL_self, seg_len, List.length_append, List.length_cons, List.length_nil, List.length_drop, List.length_take, List.length_eraseIdx, List.length_replicate, ByteArray.size_extract, bs_app, maxI_eq] <;> omega))))
                    | ((with_reducible refine andB_lt ?_ ?_); · (first | (with_reducible assumption) | (first | omega | (simp only [castL_self, seg_len, List.length_append, List.length_cons, List.length_nil, List.length_drop, List.length_take, List.length_eraseIdx, List.length_replicate, ByteArray.size_extract, bs_app, maxI_eq] <;> omega))))
                    | ((with_reducible refine andB_le ?_ ?_); · (first | (with_reducible assumption) | (first | omega | (simp only [castL_self, seg_len, List.length_append, List.length_cons, List.length_nil, List.length_drop, List.length_take, List.length_eraseIdx, List.length_replicate, ByteArray.size_extract, bs_app, maxI_eq] <;> omega))))
                    | ((with_reducible refine iteB_ltt ?_ ?_); · (first | (with_reducible assumption) | (first | omega | (simp only [castL_self, seg_len, List.length_append, List.length_cons, List.length_nil, List.length_drop, List.length_take, List.length_eraseIdx, List.length_replicate, ByteArray.size_extract, bs_app, maxI_eq] <;> omega))))
                    | ((with_reducible refine iteB_ltf ?_ ?_); · (first | (with_reducible assumption) | (first | omega | (simp only [castL_self, seg_len, List.length_append, List.length_cons, List.length_nil, List.length_drop, List.length_take, List.length_eraseIdx, List.length_replicate, ByteArray.size_extract, bs_app, maxI_eq] <;> omega))))
                    | ((with_reducible refine iteB_let ?_ ?_); · (first | (with_reducible assumption) | (first | omega | (simp only [castL_self, seg_len, List.length_append, List.length_cons, List.length_nil, List.length_drop, List.length_take, List.length_eraseIdx, List.length_replicate, ByteArray.size_extract, bs_app, maxI_eq] <;> omega))))
                    | ((with_reducible refine iteB_lef ?_ ?_); · (first | (with_reducible assumption) | (first | omega | (simp only [castL_self, seg_len, List.length_append, List.length_cons, List.length_nil, List.length_drop, List.length_take, List.length_eraseIdx, List.length_replicate, ByteArray.size_extract, bs_app, maxI_eq] <;> omega))))
                    | ((with_reducible refine iteB_dt ?_ ?_); · (first | (with_reducible assumption) | (first | omega | (simp only [castL_self, seg_len, List.length_append, List.length_cons, List.length_nil, List.length_drop, List.length_take, List.length_eraseIdx, List.length_replicate, ByteArray.size_extract, bs_app, maxI_eq] <;> omega))))
                    | ((with_reducible refine iteB_df ?_ ?_); · (first | (with_reducible assumption) | (first | omega | (simp only [castL_self, seg_len, List.length_append, List.length_cons, List.length_nil, List.length_drop, List.length_take, List.length_eraseIdx, List.length_replicate, ByteArray.size_extract, bs_app, maxI_eq] <;> omega))))
                    | ((with_reducible refine andB_i ?_ ?_); · (first | (with_reducible assumption) | (with_reducible exact decide_eq_true rfl) | (with_reducible exact sEq_self _) | ((with_reducible refine eqOK_i ?_); kernel_rfl)))
                    | ((with_reducible refine iteB_t ?_ ?_); · (first | (with_reducible assumption) | (with_reducible exact decide_eq_true rfl) | (with_reducible exact sEq_self _) | ((with_reducible refine eqOK_i ?_); kernel_rfl)))
                    | ((with_reducible refine iteB_f ?_ ?_); · (first | (with_reducible assumption) | (with_reducible exact decide_eq_true rfl) | (with_reducible exact sEq_self _) | ((with_reducible refine eqOK_i ?_); kernel_rfl)))
                    | (refine ⟨⟨i + 1, hlt⟩, ?_, rfl, ?_⟩)
                    | (with_reducible refine CD.wk_au ?_)
                    | (with_reducible refine andB_in ?_ ?_)
                    | (with_reducible refine andB_lt ?_ ?_)
                    | (with_reducible refine andB_le ?_ ?_)
                    | (with_reducible refine andB_d ?_ ?_)
                    | (with_reducible refine andB_i ?_ ?_)
                    | (with_reducible refine iteB_lts (fun hB => ?_) (fun hB => ?_))
                    | (with_reducible refine iteB_les (fun hB => ?_) (fun hB => ?_))
                    | (with_reducible refine iteB_ds (fun hB => ?_) (fun hB => ?_))
                    | (with_reducible refine iteB_s (fun hB => ?_) (fun hB => ?_))
                    | (with_reducible refine CD.wk_as ?_)
                    | (with_reducible refine And.intro ?_ ?_))
          all_goals (conv => whnf)
          all_goals (try dsimp only)
          all_goals (try simp only [Nat.succ_eq_add_one, Nat.le_eq, castL_self])
          all_goals (try omega)
          all_goals (try dsimp only)
          all_goals (try simp only [castL_self, seg_self, Nat.zero_add, Nat.sub_zero, Nat.add_zero, List.nil_append])
          all_goals first
            | omega
            | (simp only [hs', castL_self, seg_len, List.length_append, List.length_cons, List.length_nil, List.length_drop, List.length_take, List.length_eraseIdx] <;> (try split) <;> omega)
            | (rw [hs']; done)
            | (rw [hs']; rfl)
            | (rw [hs']; rfl)
            | (rw [hs', e1]; exact erase_in _ _ e2)
            | (rw [hs', e1]; exact erase_two _ _ e2)
            | trace_state
        · have hs' : runN most acts (i + 1) = runN most acts i := by
            rw [hs]; unfold stepN; subst ha ew ep; exact (if_neg h34).trans ((if_pos h5).trans (if_neg hin))
          have hin : ¬ ((0 ≤ p ∧ p < ((runN most acts i).length : Int)) ∧ ((runN most acts i).length : Int) < most) := hin
          by_cases hi2 : 0 ≤ p ∧ p < ((runN most acts i).length : Int)
          · obtain ⟨k1, k2, k3, k4, k5, k6⟩ := hg.1 _ (rowF_mem (F := runN most acts i) (i := 0 + Int.toNat (Sym.rowAt actE acts (Int.toNat (i : Int))).2.2.2.2) (by omega))
            obtain ⟨x, ex⟩ : ∃ x : Int, @Eq Int x (Sym.rowAt frE (runN most acts i) (0 + Int.toNat (Sym.rowAt actE acts (Int.toNat (i : Int))).2.2.2.2)).1 := ⟨_, rfl⟩
            obtain ⟨y, ey⟩ : ∃ y : Int, @Eq Int y (Sym.rowAt frE (runN most acts i) (0 + Int.toNat (Sym.rowAt actE acts (Int.toNat (i : Int))).2.2.2.2)).2.1 := ⟨_, rfl⟩
            have k1 : 0 ≤ x := by rw [ex]; exact k1
            have k2 : x < 7 := by rw [ex]; exact k2
            have k3 : 0 ≤ y := by rw [ey]; exact k3
            have k4 : y < 7 := by rw [ey]; exact k4
            have k5 : ¬ x = y := by rw [ex, ey]; exact k5
            have k6 : ByteArray.size (Sym.rowAt frE (runN most acts i) (0 + Int.toNat (Sym.rowAt actE acts (Int.toNat (i : Int))).2.2.2.2)).2.2 ≤ 65535 := k6
            have eM2 := maxI_eq (Sym.rowAt frE (runN most acts i) (0 + Int.toNat (Sym.rowAt actE acts (Int.toNat (i : Int))).2.2.2.2)).1 (Sym.rowAt frE (runN most acts i) (0 + Int.toNat (Sym.rowAt actE acts (Int.toNat (i : Int))).2.2.2.2)).2.1
            repeat' (conv => whnf
                     first
                      | (with_reducible exact True.intro)
                      | (with_reducible rfl)
                      | (with_reducible exact castL_self _ _)
                      | ((with_reducible refine V.same_t ?_); exact rfl)
                      | (with_reducible refine iteB_n ?_)
                      | (with_reducible refine iteB_ct ?_)
                      | (with_reducible refine iteB_cf ?_)
                      | ((with_reducible refine andB_room ?_ ?_ ?_); (· kernel_rfl); (· (first | omega | (simp only [castL_self, seg_len, List.length_append, List.length_cons, List.length_nil, List.length_drop, List.length_take, List.length_eraseIdx, List.length_replicate, ByteArray.size_extract, bs_app, maxI_eq] <;> omega))))
                      | ((with_reducible refine andB_in ?_ ?_); · (first | omega | (simp only [castL_self, seg_len, List.length_append, List.length_cons, List.length_nil, List.length_drop, List.length_take, List.length_eraseIdx, List.length_replicate, ByteArray.size_extract, bs_app, maxI_eq] <;> omega)))
                      | ((with_reducible refine andB_d ?_ ?_); · (first | (with_reducible assumption) | (first | omega | (simp only [castL_self, seg_len, List.length_append, List.length_cons, List.length_nil, List.length_drop, List.length_take, List.length_eraseIdx, List.length_replicate, ByteArray.size_extract, bs_app, maxI_eq] <;> omega))))
                      | ((with_reducible refine andB_lt ?_ ?_); · (first | (with_reducible assumption) | (first | omega | (simp only [castL_self, seg_len, List.length_append, List.length_cons, List.length_nil, List.length_drop, List.length_take, List.length_eraseIdx, List.length_replicate, ByteArray.size_extract, bs_app, maxI_eq] <;> omega))))
                      | ((with_reducible refine andB_le ?_ ?_); · (first | (with_reducible assumption) | (first | omega | (simp only [castL_self, seg_len, List.length_append, List.length_cons, List.length_nil, List.length_drop, List.length_take, List.length_eraseIdx, List.length_replicate, ByteArray.size_extract, bs_app, maxI_eq] <;> omega))))
                      | ((with_reducible refine iteB_ltt ?_ ?_); · (first | (with_reducible assumption) | (first | omega | (simp only [castL_self, seg_len, List.length_append, List.length_cons, List.length_nil, List.length_drop, List.length_take, List.length_eraseIdx, List.length_replicate, ByteArray.size_extract, bs_app, maxI_eq] <;> omega))))
                      | ((with_reducible refine iteB_ltf ?_ ?_); · (first | (with_reducible assumption) | (first | omega | (simp only [castL_self, seg_len, List.length_append, List.length_cons, List.length_nil, List.length_drop, List.length_take, List.length_eraseIdx, List.length_replicate, ByteArray.size_extract, bs_app, maxI_eq] <;> omega))))
                      | ((with_reducible refine iteB_let ?_ ?_); · (first | (with_reducible assumption) | (first | omega | (simp only [castL_self, seg_len, List.length_append, List.length_cons, List.length_nil, List.length_drop, List.length_take, List.length_eraseIdx, List.length_replicate, ByteArray.size_extract, bs_app, maxI_eq] <;> omega))))
                      | ((with_reducible refine iteB_lef ?_ ?_); · (first | (with_reducible assumption) | (first | omega | (simp only [castL_self, seg_len, List.length_append, List.length_cons, List.length_nil, List.length_drop, List.length_take, List.length_eraseIdx, List.length_replicate, ByteArray.size_extract, bs_app, maxI_eq] <;> omega))))
                      | ((with_reducible refine iteB_dt ?_ ?_); · (first | (with_reducible assumption) | (first | omega | (simp only [castL_self, seg_len, List.length_append, List.length_cons, List.length_nil, List.length_drop, List.length_take, List.length_eraseIdx, List.length_replicate, ByteArray.size_extract, bs_app, maxI_eq] <;> omega))))
                      | ((with_reducible refine iteB_df ?_ ?_); · (first | (with_reducible assumption) | (first | omega | (simp only [castL_self, seg_len, List.length_append, List.length_cons, List.length_nil, List.length_drop, List.length_take, List.length_eraseIdx, List.length_replicate, ByteArray.size_extract, bs_app, maxI_eq] <;> omega))))
                      | ((with_reducible refine andB_i ?_ ?_); · (first | (with_reducible assumption) | (with_reducible exact decide_eq_true rfl) | (with_reducible exact sEq_self _) | ((with_reducible refine eqOK_i ?_); kernel_rfl)))
                      | ((with_reducible refine iteB_t ?_ ?_); · (first | (with_reducible assumption) | (with_reducible exact decide_eq_true rfl) | (with_reducible exact sEq_self _) | ((with_reducible refine eqOK_i ?_); kernel_rfl)))
                      | ((with_reducible refine iteB_f ?_ ?_); · (first | (with_reducible assumption) | (with_reducible exact decide_eq_true rfl) | (with_reducible exact sEq_self _) | ((with_reducible refine eqOK_i ?_); kernel_rfl)))
                      | (refine ⟨⟨i + 1, hlt⟩, ?_, rfl, ?_⟩)
                      | (with_reducible refine CD.wk_au ?_)
                      | (with_reducible refine andB_in ?_ ?_)
                      | (with_reducible refine andB_lt ?_ ?_)
                      | (with_reducible refine andB_le ?_ ?_)
                      | (with_reducible refine andB_d ?_ ?_)
                      | (with_reducible refine andB_i ?_ ?_)
                      | (with_reducible refine iteB_lts (fun hB => ?_) (fun hB => ?_))
                      | (with_reducible refine iteB_les (fun hB => ?_) (fun hB => ?_))
                      | (with_reducible refine iteB_ds (fun hB => ?_) (fun hB => ?_))
                      | (with_reducible refine iteB_s (fun hB => ?_) (fun hB => ?_))
                      | (with_reducible refine CD.wk_as ?_)
                      | (with_reducible refine And.intro ?_ ?_))
            all_goals (conv => whnf)
            all_goals (try dsimp only)
            all_goals (try simp only [Nat.succ_eq_add_one, Nat.le_eq, castL_self])
            all_goals (try omega)
            all_goals (try dsimp only)
            all_goals (try simp only [castL_self, seg_self, Nat.zero_add, Nat.sub_zero, Nat.add_zero, List.nil_append])
            all_goals first
              | omega
              | (simp only [hs', castL_self, seg_len, List.length_append, List.length_cons, List.length_nil, List.length_drop, List.length_take, List.length_eraseIdx] <;> (try split) <;> omega)
              | (rw [hs']; done)
              | (rw [hs']; rfl)
              | (rw [hs']; rfl)
              | (rw [hs', e1]; exact erase_in _ _ e2)
              | (rw [hs', e1]; exact erase_two _ _ e2)
              | trace_state
          · repeat' (conv => whnf
                     first
                      | (with_reducible exact True.intro)
                      | (with_reducible rfl)
                      | (with_reducible exact castL_self _ _)
                      | ((with_reducible refine V.same_t ?_); exact rfl)
                      | (with_reducible refine iteB_n ?_)
                      | (with_reducible refine iteB_ct ?_)
                      | (with_reducible refine iteB_cf ?_)
                      | ((with_reducible refine andB_room ?_ ?_ ?_); (· kernel_rfl); (· (first | omega | (simp only [castL_self, seg_len, List.length_append, List.length_cons, List.length_nil, List.length_drop, List.length_take, List.length_eraseIdx, List.length_replicate, ByteArray.size_extract, bs_app, maxI_eq] <;> omega))))
                      | ((with_reducible refine andB_in ?_ ?_); · (first | omega | (simp only [castL_self, seg_len, List.length_append, List.length_cons, List.length_nil, List.length_drop, List.length_take, List.length_eraseIdx, List.length_replicate, ByteArray.size_extract, bs_app, maxI_eq] <;> omega)))
                      | ((with_reducible refine andB_d ?_ ?_); · (first | (with_reducible assumption) | (first | omega | (simp only [castL_self, seg_len, List.length_append, List.length_cons, List.length_nil, List.length_drop, List.length_take, List.length_eraseIdx, List.length_replicate, ByteArray.size_extract, bs_app, maxI_eq] <;> omega))))
                      | ((with_reducible refine andB_lt ?_ ?_); · (first | (with_reducible assumption) | (first | omega | (simp only [castL_self, seg_len, List.length_append, List.length_cons, List.length_nil, List.length_drop, List.length_take, List.length_eraseIdx, List.length_replicate, ByteArray.size_extract, bs_app, maxI_eq] <;> omega))))
                      | ((with_reducible refine andB_le ?_ ?_); · (first | (with_reducible assumption) | (first | omega | (simp only [castL_self, seg_len, List.length_append, List.length_cons, List.length_nil, List.length_drop, List.length_take, List.length_eraseIdx, List.length_replicate, ByteArray.size_extract, bs_app, maxI_eq] <;> omega))))
                      | ((with_reducible refine iteB_ltt ?_ ?_); · (first | (with_reducible assumption) | (first | omega | (simp only [castL_self, seg_len, List.length_append, List.length_cons, List.length_nil, List.length_drop, List.length_take, List.length_eraseIdx, List.length_replicate, ByteArray.size_extract, bs_app, maxI_eq] <;> omega))))
                      | ((with_reducible refine iteB_ltf ?_ ?_); · (first | (with_reducible assumption) | (first | omega | (simp only [castL_self, seg_len, List.length_append, List.length_cons, List.length_nil, List.length_drop, List.length_take, List.length_eraseIdx, List.length_replicate, ByteArray.size_extract, bs_app, maxI_eq] <;> omega))))
                      | ((with_reducible refine iteB_let ?_ ?_); · (first | (with_reducible assumption) | (first | omega | (simp only [castL_self, seg_len, List.length_append, List.length_cons, List.length_nil, List.length_drop, List.length_take, List.length_eraseIdx, List.length_replicate, ByteArray.size_extract, bs_app, maxI_eq] <;> omega))))
                      | ((with_reducible refine iteB_lef ?_ ?_); · (first | (with_reducible assumption) | (first | omega | (simp only [castL_self, seg_len, List.length_append, List.length_cons, List.length_nil, List.length_drop, List.length_take, List.length_eraseIdx, List.length_replicate, ByteArray.size_extract, bs_app, maxI_eq] <;> omega))))
                      | ((with_reducible refine iteB_dt ?_ ?_); · (first | (with_reducible assumption) | (first | omega | (simp only [castL_self, seg_len, List.length_append, List.length_cons, List.length_nil, List.length_drop, List.length_take, List.length_eraseIdx, List.length_replicate, ByteArray.size_extract, bs_app, maxI_eq] <;> omega))))
                      | ((with_reducible refine iteB_df ?_ ?_); · (first | (with_reducible assumption) | (first | omega | (simp only [castL_self, seg_len, List.length_append, List.length_cons, List.length_nil, List.length_drop, List.length_take, List.length_eraseIdx, List.length_replicate, ByteArray.size_extract, bs_app, maxI_eq] <;> omega))))
                      | ((with_reducible refine andB_i ?_ ?_); · (first | (with_reducible assumption) | (with_reducible exact decide_eq_true rfl) | (with_reducible exact sEq_self _) | ((with_reducible refine eqOK_i ?_); kernel_rfl)))
                      | ((with_reducible refine iteB_t ?_ ?_); · (first | (with_reducible assumption) | (with_reducible exact decide_eq_true rfl) | (with_reducible exact sEq_self _) | ((with_reducible refine eqOK_i ?_); kernel_rfl)))
                      | ((with_reducible refine iteB_f ?_ ?_); · (first | (with_reducible assumption) | (with_reducible exact decide_eq_true rfl) | (with_reducible exact sEq_self _) | ((with_reducible refine eqOK_i ?_); kernel_rfl)))
                      | (refine ⟨⟨i + 1, hlt⟩, ?_, rfl, ?_⟩)
                      | (with_reducible refine CD.wk_au ?_)
                      | (with_reducible refine andB_in ?_ ?_)
                      | (with_reducible refine andB_lt ?_ ?_)
                      | (with_reducible refine andB_le ?_ ?_)
                      | (with_reducible refine andB_d ?_ ?_)
                      | (with_reducible refine andB_i ?_ ?_)
                      | (with_reducible refine iteB_lts (fun hB => ?_) (fun hB => ?_))
                      | (with_reducible refine iteB_les (fun hB => ?_) (fun hB => ?_))
                      | (with_reducible refine iteB_ds (fun hB => ?_) (fun hB => ?_))
                      | (with_reducible refine iteB_s (fun hB => ?_) (fun hB => ?_))
                      | (with_reducible refine CD.wk_as ?_)
                      | (with_reducible refine And.intro ?_ ?_))
            all_goals (conv => whnf)
            all_goals (try dsimp only)
            all_goals (try simp only [Nat.succ_eq_add_one, Nat.le_eq, castL_self])
            all_goals (try omega)
            all_goals (try dsimp only)
            all_goals (try simp only [castL_self, seg_self, Nat.zero_add, Nat.sub_zero, Nat.add_zero, List.nil_append])
            all_goals first
              | omega
              | (simp only [hs', castL_self, seg_len, List.length_append, List.length_cons, List.length_nil, List.length_drop, List.length_take, List.length_eraseIdx] <;> (try split) <;> omega)
              | (rw [hs']; done)
              | (rw [hs']; rfl)
              | (rw [hs']; rfl)
              | (rw [hs', e1]; exact erase_in _ _ e2)
              | (rw [hs', e1]; exact erase_two _ _ e2)
              | trace_state
      · by_cases h6 : w % 7 = 6
        · have hs' : runN most acts (i + 1) = runN most acts i := by
            rw [hs]; unfold stepN; subst ha ew ep; exact (if_neg h34).trans ((if_neg h5).trans (if_pos h6))
          repeat' (conv => whnf
                   first
                    | (with_reducible exact True.intro)
                    | (with_reducible rfl)
                    | (with_reducible exact castL_self _ _)
                    | ((with_reducible refine V.same_t ?_); exact rfl)
                    | (with_reducible refine iteB_n ?_)
                    | (with_reducible refine iteB_ct ?_)
                    | (with_reducible refine iteB_cf ?_)
                    | ((with_reducible refine andB_room ?_ ?_ ?_); (· kernel_rfl); (· (first | omega | (simp only [castL_self, seg_len, List.length_append, List.length_cons, List.length_nil, List.length_drop, List.length_take, List.length_eraseIdx, List.length_replicate, ByteArray.size_extract, bs_app, maxI_eq] <;> omega))))
                    | ((with_reducible refine andB_in ?_ ?_); · (first | omega | (simp only [castL_self, seg_len, List.length_append, List.length_cons, List.length_nil, List.length_drop, List.length_take, List.length_eraseIdx, List.length_replicate, ByteArray.size_extract, bs_app, maxI_eq] <;> omega)))
                    | ((with_reducible refine andB_d ?_ ?_); · (first | (with_reducible assumption) | (first | omega | (simp only [castL_self, seg_len, List.length_append, List.length_cons, List.length_nil, List.length_drop, List.length_take, List.length_eraseIdx, List.length_replicate, ByteArray.size_extract, bs_app, maxI_eq] <;> omega))))
                    | ((with_reducible refine andB_lt ?_ ?_); · (first | (with_reducible assumption) | (first | omega | (simp only [castL_self, seg_len, List.length_append, List.length_cons, List.length_nil, List.length_drop, List.length_take, List.length_eraseIdx, List.length_replicate, ByteArray.size_extract, bs_app, maxI_eq] <;> omega))))
                    | ((with_reducible refine andB_le ?_ ?_); · (first | (with_reducible assumption) | (first | omega | (simp only [castL_self, seg_len, List.length_append, List.length_cons, List.length_nil, List.length_drop, List.length_take, List.length_eraseIdx, List.length_replicate, ByteArray.size_extract, bs_app, maxI_eq] <;> omega))))
                    | ((with_reducible refine iteB_ltt ?_ ?_); · (first | (with_reducible assumption) | (first | omega | (simp only [castL_self, seg_len, List.length_append, List.length_cons, List.length_nil, List.length_drop, List.length_take, List.length_eraseIdx, List.length_replicate, ByteArray.size_extract, bs_app, maxI_eq] <;> omega))))
                    | ((with_reducible refine iteB_ltf ?_ ?_); · (first | (with_reducible assumption) | (first | omega | (simp only [castL_self, seg_len, List.length_append, List.length_cons, List.length_nil, List.length_drop, List.length_take, List.length_eraseIdx, List.length_replicate, ByteArray.size_extract, bs_app, maxI_eq] <;> omega))))
                    | ((with_reducible refine iteB_let ?_ ?_); · (first | (with_reducible assumption) | (first | omega | (simp only [castL_self, seg_len, List.length_append, List.length_cons, List.length_nil, List.length_drop, List.length_take, List.length_eraseIdx, List.length_replicate, ByteArray.size_extract, bs_app, maxI_eq] <;> omega))))
                    | ((with_reducible refine iteB_lef ?_ ?_); · (first | (with_reducible assumption) | (first | omega | (simp only [castL_self, seg_len, List.length_append, List.length_cons, List.length_nil, List.length_drop, List.length_take, List.length_eraseIdx, List.length_replicate, ByteArray.size_extract, bs_app, maxI_eq] <;> omega))))
                    | ((with_reducible refine iteB_dt ?_ ?_); · (first | (with_reducible assumption) | (first | omega | (simp only [castL_self, seg_len, List.length_append, List.length_cons, List.length_nil, List.length_drop, List.length_take, List.length_eraseIdx, List.length_replicate, ByteArray.size_extract, bs_app, maxI_eq] <;> omega))))
                    | ((with_reducible refine iteB_df ?_ ?_); · (first | (with_reducible assumption) | (first | omega | (simp only [castL_self, seg_len, List.length_append, List.length_cons, List.length_nil, List.length_drop, List.length_take, List.length_eraseIdx, List.length_replicate, ByteArray.size_extract, bs_app, maxI_eq] <;> omega))))
                    | ((with_reducible refine andB_i ?_ ?_); · (first | (with_reducible assumption) | (with_reducible exact decide_eq_true rfl) | (with_reducible exact sEq_self _) | ((with_reducible refine eqOK_i ?_); kernel_rfl)))
                    | ((with_reducible refine iteB_t ?_ ?_); · (first | (with_reducible assumption) | (with_reducible exact decide_eq_true rfl) | (with_reducible exact sEq_self _) | ((with_reducible refine eqOK_i ?_); kernel_rfl)))
                    | ((with_reducible refine iteB_f ?_ ?_); · (first | (with_reducible assumption) | (with_reducible exact decide_eq_true rfl) | (with_reducible exact sEq_self _) | ((with_reducible refine eqOK_i ?_); kernel_rfl)))
                    | (refine ⟨⟨i + 1, hlt⟩, ?_, rfl, ?_⟩)
                    | (with_reducible refine CD.wk_au ?_)
                    | (with_reducible refine andB_in ?_ ?_)
                    | (with_reducible refine andB_lt ?_ ?_)
                    | (with_reducible refine andB_le ?_ ?_)
                    | (with_reducible refine andB_d ?_ ?_)
                    | (with_reducible refine andB_i ?_ ?_)
                    | (with_reducible refine iteB_lts (fun hB => ?_) (fun hB => ?_))
                    | (with_reducible refine iteB_les (fun hB => ?_) (fun hB => ?_))
                    | (with_reducible refine iteB_ds (fun hB => ?_) (fun hB => ?_))
                    | (with_reducible refine iteB_s (fun hB => ?_) (fun hB => ?_))
                    | (with_reducible refine CD.wk_as ?_)
                    | (with_reducible refine And.intro ?_ ?_))
          all_goals (conv => whnf)
          all_goals (try dsimp only)
          all_goals (try simp only [Nat.succ_eq_add_one, Nat.le_eq, castL_self])
          all_goals (try omega)
          all_goals (try dsimp only)
          all_goals (try simp only [castL_self, seg_self, Nat.zero_add, Nat.sub_zero, Nat.add_zero, List.nil_append])
          all_goals first
            | omega
            | (simp only [hs', castL_self, seg_len, List.length_append, List.length_cons, List.length_nil, List.length_drop, List.length_take, List.length_eraseIdx] <;> (try split) <;> omega)
            | (rw [hs']; done)
            | (rw [hs']; rfl)
            | (rw [hs']; rfl)
            | (rw [hs', e1]; exact erase_in _ _ e2)
            | (rw [hs', e1]; exact erase_two _ _ e2)
            | trace_state
        · by_cases hin : okF (a.2.1, a.2.2.1, cut2 a.2.2.2.1) ∧ ((runN most acts i).length : Int) < most
          · have hs' : runN most acts (i + 1) = runN most acts i ++ [((Sym.rowAt actE acts (Int.toNat (i : Int))).2.1, (Sym.rowAt actE acts (Int.toNat (i : Int))).2.2.1, cut2 (Sym.rowAt actE acts (Int.toNat (i : Int))).2.2.2.1)] := by
              rw [hs]; unfold stepN; subst ha ew ep; exact (if_neg h34).trans ((if_neg h5).trans ((if_neg h6).trans (if_pos hin)))
            obtain ⟨⟨k1, k2, k3, k4, k5, k6⟩, i3⟩ := hin
            have k1 : 0 ≤ f := by rw [ef]; subst ha; exact k1
            have k2 : f < 7 := by rw [ef]; subst ha; exact k2
            have k3 : 0 ≤ t := by rw [et]; subst ha; exact k3
            have k4 : t < 7 := by rw [et]; subst ha; exact k4
            have k5 : ¬ f = t := by rw [ef, et]; subst ha; exact k5
            repeat' (conv => whnf
                     first
                      | (with_reducible exact True.intro)
                      | (with_reducible rfl)
                      | (with_reducible exact castL_self _ _)
                      | ((with_reducible refine V.same_t ?_); exact rfl)
                      | (with_reducible refine iteB_n ?_)
                      | (with_reducible refine iteB_ct ?_)
                      | (with_reducible refine iteB_cf ?_)
                      | ((with_reducible refine andB_room ?_ ?_ ?_); (· kernel_rfl); (· (first | omega | (simp only [castL_self, seg_len, List.length_append, List.length_cons, List.length_nil, List.length_drop, List.length_take, List.length_eraseIdx, List.length_replicate, ByteArray.size_extract, bs_app, maxI_eq] <;> omega))))
                      | ((with_reducible refine andB_in ?_ ?_); · (first | omega | (simp only [castL_self, seg_len, List.length_append, List.length_cons, List.length_nil, List.length_drop, List.length_take, List.length_eraseIdx, List.length_replicate, ByteArray.size_extract, bs_app, maxI_eq] <;> omega)))
                      | ((with_reducible refine andB_d ?_ ?_); · (first | (with_reducible assumption) | (first | omega | (simp only [castL_self, seg_len, List.length_append, List.length_cons, List.length_nil, List.length_drop, List.length_take, List.length_eraseIdx, List.length_replicate, ByteArray.size_extract, bs_app, maxI_eq] <;> omega))))
                      | ((with_reducible refine andB_lt ?_ ?_); · (first | (with_reducible assumption) | (first | omega | (simp only [castL_self, seg_len, List.length_append, List.length_cons, List.length_nil, List.length_drop, List.length_take, List.length_eraseIdx, List.length_replicate, ByteArray.size_extract, bs_app, maxI_eq] <;> omega))))
                      | ((with_reducible refine andB_le ?_ ?_); · (first | (with_reducible assumption) | (first | omega | (simp only [castL_self, seg_len, List.length_append, List.length_cons, List.length_nil, List.length_drop, List.length_take, List.length_eraseIdx, List.length_replicate, ByteArray.size_extract, bs_app, maxI_eq] <;> omega))))
                      | ((with_reducible refine iteB_ltt ?_ ?_); · (first | (with_reducible assumption) | (first | omega | (simp only [castL_self, seg_len, List.length_append, List.length_cons, List.length_nil, List.length_drop, List.length_take, List.length_eraseIdx, List.length_replicate, ByteArray.size_extract, bs_app, maxI_eq] <;> omega))))
                      | ((with_reducible refine iteB_ltf ?_ ?_); · (first | (with_reducible assumption) | (first | omega | (simp only [castL_self, seg_len, List.length_append, List.length_cons, List.length_nil, List.length_drop, List.length_take, List.length_eraseIdx, List.length_replicate, ByteArray.size_extract, bs_app, maxI_eq] <;> omega))))
                      | ((with_reducible refine iteB_let ?_ ?_); · (first | (with_reducible assumption) | (first | omega | (simp only [castL_self, seg_len, List.length_append, List.length_cons, List.length_nil, List.length_drop, List.length_take, List.length_eraseIdx, List.length_replicate, ByteArray.size_extract, bs_app, maxI_eq] <;> omega))))
                      | ((with_reducible refine iteB_lef ?_ ?_); · (first | (with_reducible assumption) | (first | omega | (simp only [castL_self, seg_len, List.length_append, List.length_cons, List.length_nil, List.length_drop, List.length_take, List.length_eraseIdx, List.length_replicate, ByteArray.size_extract, bs_app, maxI_eq] <;> omega))))
                      | ((with_reducible refine iteB_dt ?_ ?_); · (first | (with_reducible assumption) | (first | omega | (simp only [castL_self, seg_len, List.length_append, List.length_cons, List.length_nil, List.length_drop, List.length_take, List.length_eraseIdx, List.length_replicate, ByteArray.size_extract, bs_app, maxI_eq] <;> omega))))
                      | ((with_reducible refine iteB_df ?_ ?_); · (first | (with_reducible assumption) | (first | omega | (simp only [castL_self, seg_len, List.length_append, List.length_cons, List.length_nil, List.length_drop, List.length_take, List.length_eraseIdx, List.length_replicate, ByteArray.size_extract, bs_app, maxI_eq] <;> omega))))
                      | ((with_reducible refine andB_i ?_ ?_); · (first | (with_reducible assumption) | (with_reducible exact decide_eq_true rfl) | (with_reducible exact sEq_self _) | ((with_reducible refine eqOK_i ?_); kernel_rfl)))
                      | ((with_reducible refine iteB_t ?_ ?_); · (first | (with_reducible assumption) | (with_reducible exact decide_eq_true rfl) | (with_reducible exact sEq_self _) | ((with_reducible refine eqOK_i ?_); kernel_rfl)))
                      | ((with_reducible refine iteB_f ?_ ?_); · (first | (with_reducible assumption) | (with_reducible exact decide_eq_true rfl) | (with_reducible exact sEq_self _) | ((with_reducible refine eqOK_i ?_); kernel_rfl)))
                      | (refine ⟨⟨i + 1, hlt⟩, ?_, rfl, ?_⟩)
                      | (with_reducible refine CD.wk_au ?_)
                      | (with_reducible refine andB_in ?_ ?_)
                      | (with_reducible refine andB_lt ?_ ?_)
                      | (with_reducible refine andB_le ?_ ?_)
                      | (with_reducible refine andB_d ?_ ?_)
                      | (with_reducible refine andB_i ?_ ?_)
                      | (with_reducible refine iteB_lts (fun hB => ?_) (fun hB => ?_))
                      | (with_reducible refine iteB_les (fun hB => ?_) (fun hB => ?_))
                      | (with_reducible refine iteB_ds (fun hB => ?_) (fun hB => ?_))
                      | (with_reducible refine iteB_s (fun hB => ?_) (fun hB => ?_))
                      | (with_reducible refine CD.wk_as ?_)
                      | (with_reducible refine And.intro ?_ ?_))
            all_goals (conv => whnf)
            all_goals (try dsimp only)
            all_goals (try simp only [Nat.succ_eq_add_one, Nat.le_eq, castL_self])
            all_goals (try omega)
            all_goals (try dsimp only)
            all_goals (try simp only [castL_self, seg_self, Nat.zero_add, Nat.sub_zero, Nat.add_zero, List.nil_append])
            all_goals first
              | omega
              | (simp only [hs', castL_self, seg_len, List.length_append, List.length_cons, List.length_nil, List.length_drop, List.length_take, List.length_eraseIdx] <;> (try split) <;> omega)
              | (rw [hs']; done)
              | (rw [hs']; rfl)
              | (rw [hs']; rfl)
              | (rw [hs', e1]; exact erase_in _ _ e2)
              | (rw [hs', e1]; exact erase_two _ _ e2)
              | trace_state
          · have hs' : runN most acts (i + 1) = runN most acts i := by
              rw [hs]; unfold stepN; subst ha ew ep; exact (if_neg h34).trans ((if_neg h5).trans ((if_neg h6).trans (if_neg hin)))
            have hin : ¬ ((0 ≤ f ∧ f < 7 ∧ 0 ≤ t ∧ t < 7 ∧ ¬ f = t) ∧ ((runN most acts i).length : Int) < most) := fun h => hin ⟨⟨by subst ha; rw [← ef]; exact h.1.1, by subst ha; rw [← ef]; exact h.1.2.1, by subst ha; rw [← et]; exact h.1.2.2.1, by subst ha; rw [← et]; exact h.1.2.2.2.1, by subst ha; rw [← ef, ← et]; exact h.1.2.2.2.2, Nat.le_trans (cut2_size _) (by decide)⟩, h.2⟩
            repeat' (conv => whnf
                     first
                      | (with_reducible exact True.intro)
                      | (with_reducible rfl)
                      | (with_reducible exact castL_self _ _)
                      | ((with_reducible refine V.same_t ?_); exact rfl)
                      | (with_reducible refine iteB_n ?_)
                      | (with_reducible refine iteB_ct ?_)
                      | (with_reducible refine iteB_cf ?_)
                      | ((with_reducible refine andB_room ?_ ?_ ?_); (· kernel_rfl); (· (first | omega | (simp only [castL_self, seg_len, List.length_append, List.length_cons, List.length_nil, List.length_drop, List.length_take, List.length_eraseIdx, List.length_replicate, ByteArray.size_extract, bs_app, maxI_eq] <;> omega))))
                      | ((with_reducible refine andB_in ?_ ?_); · (first | omega | (simp only [castL_self, seg_len, List.length_append, List.length_cons, List.length_nil, List.length_drop, List.length_take, List.length_eraseIdx, List.length_replicate, ByteArray.size_extract, bs_app, maxI_eq] <;> omega)))
                      | ((with_reducible refine andB_d ?_ ?_); · (first | (with_reducible assumption) | (first | omega | (simp only [castL_self, seg_len, List.length_append, List.length_cons, List.length_nil, List.length_drop, List.length_take, List.length_eraseIdx, List.length_replicate, ByteArray.size_extract, bs_app, maxI_eq] <;> omega))))
                      | ((with_reducible refine andB_lt ?_ ?_); · (first | (with_reducible assumption) | (first | omega | (simp only [castL_self, seg_len, List.length_append, List.length_cons, List.length_nil, List.length_drop, List.length_take, List.length_eraseIdx, List.length_replicate, ByteArray.size_extract, bs_app, maxI_eq] <;> omega))))
                      | ((with_reducible refine andB_le ?_ ?_); · (first | (with_reducible assumption) | (first | omega | (simp only [castL_self, seg_len, List.length_append, List.length_cons, List.length_nil, List.length_drop, List.length_take, List.length_eraseIdx, List.length_replicate, ByteArray.size_extract, bs_app, maxI_eq] <;> omega))))
                      | ((with_reducible refine iteB_ltt ?_ ?_); · (first | (with_reducible assumption) | (first | omega | (simp only [castL_self, seg_len, List.length_append, List.length_cons, List.length_nil, List.length_drop, List.length_take, List.length_eraseIdx, List.length_replicate, ByteArray.size_extract, bs_app, maxI_eq] <;> omega))))
                      | ((with_reducible refine iteB_ltf ?_ ?_); · (first | (with_reducible assumption) | (first | omega | (simp only [castL_self, seg_len, List.length_append, List.length_cons, List.length_nil, List.length_drop, List.length_take, List.length_eraseIdx, List.length_replicate, ByteArray.size_extract, bs_app, maxI_eq] <;> omega))))
                      | ((with_reducible refine iteB_let ?_ ?_); · (first | (with_reducible assumption) | (first | omega | (simp only [castL_self, seg_len, List.length_append, List.length_cons, List.length_nil, List.length_drop, List.length_take, List.length_eraseIdx, List.length_replicate, ByteArray.size_extract, bs_app, maxI_eq] <;> omega))))
                      | ((with_reducible refine iteB_lef ?_ ?_); · (first | (with_reducible assumption) | (first | omega | (simp only [castL_self, seg_len, List.length_append, List.length_cons, List.length_nil, List.length_drop, List.length_take, List.length_eraseIdx, List.length_replicate, ByteArray.size_extract, bs_app, maxI_eq] <;> omega))))
                      | ((with_reducible refine iteB_dt ?_ ?_); · (first | (with_reducible assumption) | (first | omega | (simp only [castL_self, seg_len, List.length_append, List.length_cons, List.length_nil, List.length_drop, List.length_take, List.length_eraseIdx, List.length_replicate, ByteArray.size_extract, bs_app, maxI_eq] <;> omega))))
                      | ((with_reducible refine iteB_df ?_ ?_); · (first | (with_reducible assumption) | (first | omega | (simp only [castL_self, seg_len, List.length_append, List.length_cons, List.length_nil, List.length_drop, List.length_take, List.length_eraseIdx, List.length_replicate, ByteArray.size_extract, bs_app, maxI_eq] <;> omega))))
                      | ((with_reducible refine andB_i ?_ ?_); · (first | (with_reducible assumption) | (with_reducible exact decide_eq_true rfl) | (with_reducible exact sEq_self _) | ((with_reducible refine eqOK_i ?_); kernel_rfl)))
                      | ((with_reducible refine iteB_t ?_ ?_); · (first | (with_reducible assumption) | (with_reducible exact decide_eq_true rfl) | (with_reducible exact sEq_self _) | ((with_reducible refine eqOK_i ?_); kernel_rfl)))
                      | ((with_reducible refine iteB_f ?_ ?_); · (first | (with_reducible assumption) | (with_reducible exact decide_eq_true rfl) | (with_reducible exact sEq_self _) | ((with_reducible refine eqOK_i ?_); kernel_rfl)))
                      | (refine ⟨⟨i + 1, hlt⟩, ?_, rfl, ?_⟩)
                      | (with_reducible refine CD.wk_au ?_)
                      | (with_reducible refine andB_in ?_ ?_)
                      | (with_reducible refine andB_lt ?_ ?_)
                      | (with_reducible refine andB_le ?_ ?_)
                      | (with_reducible refine andB_d ?_ ?_)
                      | (with_reducible refine andB_i ?_ ?_)
                      | (with_reducible refine iteB_lts (fun hB => ?_) (fun hB => ?_))
                      | (with_reducible refine iteB_les (fun hB => ?_) (fun hB => ?_))
                      | (with_reducible refine iteB_ds (fun hB => ?_) (fun hB => ?_))
                      | (with_reducible refine iteB_s (fun hB => ?_) (fun hB => ?_))
                      | (with_reducible refine CD.wk_as ?_)
                      | (with_reducible refine And.intro ?_ ?_))
            all_goals (conv => whnf)
            all_goals (try dsimp only)
            all_goals (try simp only [Nat.succ_eq_add_one, Nat.le_eq, castL_self])
            all_goals (try omega)
            all_goals (try dsimp only)
            all_goals (try simp only [castL_self, seg_self, Nat.zero_add, Nat.sub_zero, Nat.add_zero, List.nil_append])
            all_goals first
              | omega
              | (simp only [hs', castL_self, seg_len, List.length_append, List.length_cons, List.length_nil, List.length_drop, List.length_take, List.length_eraseIdx] <;> (try split) <;> omega)
              | (rw [hs']; done)
              | (rw [hs']; rfl)
              | (rw [hs']; rfl)
              | (rw [hs', e1]; exact erase_in _ _ e2)
              | (rw [hs', e1]; exact erase_two _ _ e2)
              | trace_state
  · have he : i = min acts.length 100 := Nat.le_antisymm hi hge
    subst he
    repeat' (conv => whnf
             first
              | (with_reducible exact True.intro)
              | (with_reducible rfl)
              | (with_reducible exact castL_self _ _)
              | ((with_reducible refine V.same_t ?_); exact rfl)
              | (with_reducible refine iteB_n ?_)
              | (with_reducible refine iteB_ct ?_)
              | (with_reducible refine iteB_cf ?_)
              | ((with_reducible refine andB_room ?_ ?_ ?_); (· kernel_rfl); (· (first | omega | (simp only [castL_self, seg_len, List.length_append, List.length_cons, List.length_nil, List.length_drop, List.length_take, List.length_eraseIdx, List.length_replicate, ByteArray.size_extract, bs_app, maxI_eq] <;> omega))))
              | ((with_reducible refine andB_in ?_ ?_); · (first | omega | (simp only [castL_self, seg_len, List.length_append, List.length_cons, List.length_nil, List.length_drop, List.length_take, List.length_eraseIdx, List.length_replicate, ByteArray.size_extract, bs_app, maxI_eq] <;> omega)))
              | ((with_reducible refine andB_d ?_ ?_); · (first | (with_reducible assumption) | (first | omega | (simp only [castL_self, seg_len, List.length_append, List.length_cons, List.length_nil, List.length_drop, List.length_take, List.length_eraseIdx, List.length_replicate, ByteArray.size_extract, bs_app, maxI_eq] <;> omega))))
              | ((with_reducible refine andB_lt ?_ ?_); · (first | (with_reducible assumption) | (first | omega | (simp only [castL_self, seg_len, List.length_append, List.length_cons, List.length_nil, List.length_drop, List.length_take, List.length_eraseIdx, List.length_replicate, ByteArray.size_extract, bs_app, maxI_eq] <;> omega))))
              | ((with_reducible refine andB_le ?_ ?_); · (first | (with_reducible assumption) | (first | omega | (simp only [castL_self, seg_len, List.length_append, List.length_cons, List.length_nil, List.length_drop, List.length_take, List.length_eraseIdx, List.length_replicate, ByteArray.size_extract, bs_app, maxI_eq] <;> omega))))
              | ((with_reducible refine iteB_ltt ?_ ?_); · (first | (with_reducible assumption) | (first | omega | (simp only [castL_self, seg_len, List.length_append, List.length_cons, List.length_nil, List.length_drop, List.length_take, List.length_eraseIdx, List.length_replicate, ByteArray.size_extract, bs_app, maxI_eq] <;> omega))))
              | ((with_reducible refine iteB_ltf ?_ ?_); · (first | (with_reducible assumption) | (first | omega | (simp only [castL_self, seg_len, List.length_append, List.length_cons, List.length_nil, List.length_drop, List.length_take, List.length_eraseIdx, List.length_replicate, ByteArray.size_extract, bs_app, maxI_eq] <;> omega))))
              | ((with_reducible refine iteB_let ?_ ?_); · (first | (with_reducible assumption) | (first | omega | (simp only [castL_self, seg_len, List.length_append, List.length_cons, List.length_nil, List.length_drop, List.length_take, List.length_eraseIdx, List.length_replicate, ByteArray.size_extract, bs_app, maxI_eq] <;> omega))))
              | ((with_reducible refine iteB_lef ?_ ?_); · (first | (with_reducible assumption) | (first | omega | (simp only [castL_self, seg_len, List.length_append, List.length_cons, List.length_nil, List.length_drop, List.length_take, List.length_eraseIdx, List.length_replicate, ByteArray.size_extract, bs_app, maxI_eq] <;> omega))))
              | ((with_reducible refine iteB_dt ?_ ?_); · (first | (with_reducible assumption) | (first | omega | (simp only [castL_self, seg_len, List.length_append, List.length_cons, List.length_nil, List.length_drop, List.length_take, List.length_eraseIdx, List.length_replicate, ByteArray.size_extract, bs_app, maxI_eq] <;> omega))))
              | ((with_reducible refine iteB_df ?_ ?_); · (first | (with_reducible assumption) | (first | omega | (simp only [castL_self, seg_len, List.length_append, List.length_cons, List.length_nil, List.length_drop, List.length_take, List.length_eraseIdx, List.length_replicate, ByteArray.size_extract, bs_app, maxI_eq] <;> omega))))
              | ((with_reducible refine andB_i ?_ ?_); · (first | (with_reducible assumption) | (with_reducible exact decide_eq_true rfl) | (with_reducible exact sEq_self _) | ((with_reducible refine eqOK_i ?_); kernel_rfl)))
              | ((with_reducible refine iteB_t ?_ ?_); · (first | (with_reducible assumption) | (with_reducible exact decide_eq_true rfl) | (with_reducible exact sEq_self _) | ((with_reducible refine eqOK_i ?_); kernel_rfl)))
              | ((with_reducible refine iteB_f ?_ ?_); · (first | (with_reducible assumption) | (with_reducible exact decide_eq_true rfl) | (with_reducible exact sEq_self _) | ((with_reducible refine eqOK_i ?_); kernel_rfl)))
              | (with_reducible refine CD.wk_au ?_)
              | (with_reducible refine andB_in ?_ ?_)
              | (with_reducible refine andB_lt ?_ ?_)
              | (with_reducible refine andB_le ?_ ?_)
              | (with_reducible refine andB_d ?_ ?_)
              | (with_reducible refine andB_i ?_ ?_)
              | (with_reducible refine iteB_lts (fun hB => ?_) (fun hB => ?_))
              | (with_reducible refine iteB_les (fun hB => ?_) (fun hB => ?_))
              | (with_reducible refine iteB_ds (fun hB => ?_) (fun hB => ?_))
              | (with_reducible refine iteB_s (fun hB => ?_) (fun hB => ?_))
              | (with_reducible refine CD.wk_as ?_)
              | (with_reducible refine And.intro ?_ ?_))
    all_goals (conv => whnf)
    all_goals (try dsimp only)
    all_goals (try simp only [Nat.succ_eq_add_one, Nat.le_eq, castL_self])
    all_goals (try omega)
    all_goals trace_state
end
end Go.Proofs.Ytlkbmjdgfbciaaa
