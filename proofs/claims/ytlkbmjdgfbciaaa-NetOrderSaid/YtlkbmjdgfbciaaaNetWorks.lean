/-
  The chapter's rows: works returns true. No condition.
-/
import Derived.Test.YtlkbmjdgfbciaaaSymAu
import Derived.Test.YtlkbmjdgfbciaaaProg
import Derived.KernelRfl
namespace Go.Proofs.Ytlkbmjdgfbciaaa
open Go.Sym
set_option maxRecDepth 100000
set_option maxHeartbeats 4000000
theorem works30_at : PureAt Try.prog 11 [] (.bool true) := by
  have m1 := maxI_eq 0 1
  have m2 := maxI_eq 1 2
  have m3 := maxI_eq 2 0
  have z1 : ByteArray.size ⟨#[97]⟩ = 1 := rfl
  have z2 : ByteArray.size ⟨#[98]⟩ = 1 := rfl
  have z3 : ByteArray.size ⟨#[99]⟩ = 1 := rfl
  refine pure_of_W0 (tab := noTab) (fuel := 20) (d := 12) noTab_ok ?_
  repeat' (conv => whnf
           first
            | (with_reducible exact True.intro)
            | (with_reducible rfl)
            | (with_reducible exact castL_self _ _)
            | ((with_reducible refine V.same_t ?_); exact rfl)
            | (with_reducible refine iteB_n ?_)
            | (with_reducible refine iteB_ct ?_)
            | (with_reducible refine iteB_cf ?_)
            | (with_reducible refine iteB_bt ?_)
            | (with_reducible refine iteB_bf ?_)
            | (with_reducible refine iteB_tb ?_)
            | (with_reducible refine iteB_fb ?_)
            | ((with_reducible refine andB_room ?_ ?_ ?_); (· kernel_rfl); (· (first | omega | (decide +kernel) | (simp only [maxI_eq] <;> decide +kernel))))
            | ((with_reducible refine andB_in ?_ ?_); · (first | omega | (decide +kernel) | (simp only [maxI_eq] <;> decide +kernel)))
            | ((with_reducible refine andB_d ?_ ?_); · (first | (with_reducible assumption) | (first | omega | (decide +kernel) | (simp only [maxI_eq] <;> decide +kernel))))
            | ((with_reducible refine andB_lt ?_ ?_); · (first | (with_reducible assumption) | (first | omega | (decide +kernel) | (simp only [maxI_eq] <;> decide +kernel))))
            | ((with_reducible refine andB_le ?_ ?_); · (first | (with_reducible assumption) | (first | omega | (decide +kernel) | (simp only [maxI_eq] <;> decide +kernel))))
            | ((with_reducible refine iteB_ltt ?_ ?_); · (first | (with_reducible assumption) | (first | omega | (decide +kernel) | (simp only [maxI_eq] <;> decide +kernel))))
            | ((with_reducible refine iteB_ltf ?_ ?_); · (first | (with_reducible assumption) | (first | omega | (decide +kernel) | (simp only [maxI_eq] <;> decide +kernel))))
            | ((with_reducible refine iteB_let ?_ ?_); · (first | (with_reducible assumption) | (first | omega | (decide +kernel) | (simp only [maxI_eq] <;> decide +kernel))))
            | ((with_reducible refine iteB_lef ?_ ?_); · (first | (with_reducible assumption) | (first | omega | (decide +kernel) | (simp only [maxI_eq] <;> decide +kernel))))
            | ((with_reducible refine iteB_dt ?_ ?_); · (first | (with_reducible assumption) | (first | omega | (decide +kernel) | (simp only [maxI_eq] <;> decide +kernel))))
            | ((with_reducible refine iteB_df ?_ ?_); · (first | (with_reducible assumption) | (first | omega | (decide +kernel) | (simp only [maxI_eq] <;> decide +kernel))))
            | ((with_reducible refine andB_i ?_ ?_); · (first | (with_reducible assumption) | (with_reducible exact decide_eq_true rfl) | (with_reducible exact sEq_self _) | ((with_reducible refine eqOK_i ?_); kernel_rfl)))
            | ((with_reducible refine iteB_t ?_ ?_); · (first | (with_reducible assumption) | (with_reducible exact decide_eq_true rfl) | (with_reducible exact sEq_self _) | ((with_reducible refine eqOK_i ?_); kernel_rfl)))
            | ((with_reducible refine iteB_f ?_ ?_); · (first | (with_reducible assumption) | (with_reducible exact decide_eq_true rfl) | (with_reducible exact sEq_self _) | ((with_reducible refine eqOK_i ?_); kernel_rfl)))
            | (with_reducible refine andB_in ?_ ?_)
            | (with_reducible refine andB_lt ?_ ?_)
            | (with_reducible refine andB_le ?_ ?_)
            | (with_reducible refine andB_d ?_ ?_)
            | (with_reducible refine andB_i ?_ ?_)
            | (with_reducible refine iteB_lts (fun hB => ?_) (fun hB => ?_))
            | (with_reducible refine iteB_les (fun hB => ?_) (fun hB => ?_))
            | (with_reducible refine iteB_ds (fun hB => ?_) (fun hB => ?_))
            | (with_reducible refine iteB_s (fun hB => ?_) (fun hB => ?_))
            | (with_reducible refine CD.wk_as ?_)
            | (with_reducible refine And.intro ?_ ?_))
  all_goals (conv => whnf)
  all_goals (try dsimp only)
  all_goals (try simp only [Nat.succ_eq_add_one, Nat.le_eq, castL_self])
  all_goals (try omega)
  all_goals (try (simp only [castL_self, seg_len, rowAt_one, rowAt_oneS, List.length_append, List.length_cons, List.length_nil, List.length_drop, List.length_take, List.length_eraseIdx, List.length_replicate, ByteArray.size_extract, bs_app, strOf_size, bytesL_len, maxI_eq] <;> omega))
  all_goals first
    | rfl
    | trace_state
end Go.Proofs.Ytlkbmjdgfbciaaa
