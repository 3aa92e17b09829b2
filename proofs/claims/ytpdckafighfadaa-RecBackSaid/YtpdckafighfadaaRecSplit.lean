/-
  A revision's bytes, taken apart: both functions, at any bytes. No condition.
-/
import Derived.Test.YtpdckafighfadaaRecKey
namespace Go.Proofs.Ytpdckafighfadaa
open Go.Sym
set_option linter.unusedVariables false
set_option maxRecDepth 100000
set_option maxHeartbeats 4000000

theorem splitno_at (s : ByteArray) (hs : decide (Int.ofNat s.size = 16) = false) : PureAt Try.prog 16 [.str s] (.tup [.agg [.int .u64 0, .int .u64 0], .int .i64 4]) := by
  refine pure_of_W0 (tab := noTab) (fuel := 10) (d := 3) noTab_ok ?_
  repeat' (conv => whnf
           first
            | (with_reducible exact True.intro)
            | (with_reducible rfl)
            | (with_reducible exact castL_self _ _)
            | ((with_reducible refine V.same_t ?_); exact rfl)
            | (with_reducible refine iteB_n ?_)
            | ((with_reducible refine andB_i ?_ ?_); · (first | (with_reducible assumption) | (with_reducible exact decide_eq_true rfl) | (with_reducible exact sEq_self _) | ((with_reducible refine eqOK_i ?_); kernel_rfl)))
            | ((with_reducible refine iteB_t ?_ ?_); · (first | (with_reducible assumption) | (with_reducible exact decide_eq_true rfl) | (with_reducible exact sEq_self _) | ((with_reducible refine eqOK_i ?_); kernel_rfl)))
            | ((with_reducible refine iteB_f ?_ ?_); · (first | (with_reducible assumption) | (with_reducible exact decide_eq_true rfl) | (with_reducible exact sEq_self _) | ((with_reducible refine eqOK_i ?_); kernel_rfl)))
            | (with_reducible refine andB_i ?_ ?_)
            | (with_reducible refine iteB_s (fun hB => ?_) (fun hB => ?_))
            | (with_reducible refine CD.wk_as ?_)
            | (with_reducible refine And.intro ?_ ?_))
  all_goals (conv => whnf)
def nmS (s : ByteArray) : Nat → Int
  | 0 => 0
  | k + 1 => IntKind.u64.wrap (IntKind.u64.wrap (nmS s k * 256) + IntKind.u64.wrap (bAt s k))
theorem bAt_in (s : ByteArray) (i : Nat) (h : i < s.size) : 0 ≤ bAt s i ∧ bAt s i < 256 := by
  unfold bAt
  rw [List.getD_eq_getElem?_getD, List.getElem?_eq_getElem (by rw [Array.length_toList]; exact h)]
  have := UInt8.toNat_lt (s.data.toList[i]'(by rw [Array.length_toList]; exact h))
  simp only [Option.getD_some, Int.ofNat_eq_natCast]
  omega
theorem nmS_eq (s : ByteArray) : ∀ k, k ≤ 8 → k ≤ s.size → nmS s k = spS s 0 k
  | 0, _, _ => rfl
  | k + 1, h, h2 => by
    have e0 := spS_eq s 0 k (by omega) (by rw [Array.length_toList]; show 0 + k ≤ s.size; omega)
    have hv := valU_lt ((s.data.toList.drop 0).take k)
    have hl : ((s.data.toList.drop 0).take k).length ≤ k := List.length_take_le _ _
    have hp : (256 : Nat) ^ ((s.data.toList.drop 0).take k).length ≤ 256 ^ 7 := Nat.pow_le_pow_right (by decide) (by omega)
    have hb := bAt_in s k (by omega)
    have e : bAt s k = ((bAt s k).toNat : Int) := by omega
    rw [nmS, spS, nmS_eq s k (by omega) (by omega), Nat.zero_add, e0, e, stV_eq _ _ (by omega) (by omega)]
    rw [wrap_u64 (n := ((valU ((s.data.toList.drop 0).take k) : Nat) : Int) * 256) (by omega) (by omega), wrap_u64 (n := (((bAt s k).toNat : Nat) : Int)) (by omega) (by omega), wrap_u64 (by omega) (by omega)]
    omega
theorem number_at (s : ByteArray) (hs : s.size = 8) : PureAt Try.prog 34 [.str s] (.int .u64 (spV s 0)) := by
  have hv : nmS s 8 = spV s 0 := by rw [nmS_eq s 8 (by omega) (by omega), spS_8 s 0 (by omega)]
  rw [← hv]
  refine pure_of_loop noTab_ok (fuel := 3) (d := 4) 3 (X := { i : Nat // i ≤ 8 })
    (fun x => ⟨19, [(0, .str s), (3, .int .u64 (nmS s x.1)), (4, .int .i64 (Int.ofNat x.1))], [], [], 0⟩) (fun x => 8 - x.1)
    (fun _ => .leaf (.exit 0) ⟨19, [(0, .str s), (3, .int .u64 (nmS s 8)), (4, .int .i64 (Int.ofNat 8))], [], [], 0⟩) ⟨0, Nat.zero_le _⟩ [] rfl ?_ ?_
  · rintro ⟨i, hi⟩
    repeat' (conv => whnf
             first
              | (with_reducible exact True.intro)
              | (with_reducible rfl)
              | (with_reducible exact castL_self _ _)
              | ((with_reducible refine V.same_t ?_); exact rfl)
              | (with_reducible refine iteB_n ?_)
              | ((with_reducible refine andB_i ?_ ?_); · (first | (with_reducible assumption) | (with_reducible exact decide_eq_true rfl) | (with_reducible exact sEq_self _) | ((with_reducible refine eqOK_i ?_); kernel_rfl)))
              | ((with_reducible refine iteB_t ?_ ?_); · (first | (with_reducible assumption) | (with_reducible exact decide_eq_true rfl) | (with_reducible exact sEq_self _) | ((with_reducible refine eqOK_i ?_); kernel_rfl)))
              | ((with_reducible refine iteB_f ?_ ?_); · (first | (with_reducible assumption) | (with_reducible exact decide_eq_true rfl) | (with_reducible exact sEq_self _) | ((with_reducible refine eqOK_i ?_); kernel_rfl)))
              | (refine ⟨⟨i + 1, ?_⟩, ?_, rfl, ?_⟩)
              | (with_reducible refine CD.wk_ask ?_)
              | (with_reducible refine andB_i ?_ ?_)
              | (with_reducible refine iteB_s (fun hB => ?_) (fun hB => ?_))
              | (with_reducible refine CD.wk_as ?_)
              | (with_reducible refine And.intro ?_ ?_))
    all_goals (conv => whnf)
    all_goals first
      | (have hB : (i : Int) < (s.size : Int) := of_decide_eq_true hB
         exact decide_eq_true (show i < s.size by omega))
      | (have hB : (i : Int) < (s.size : Int) := of_decide_eq_true hB
         show i + 1 ≤ 8
         omega)
      | (have hB : (i : Int) < (s.size : Int) := of_decide_eq_true hB
         show 8 - (i + 1) + 1 ≤ 8 - i
         omega)
      | rfl
      | (show IntKind.i64.wrap ((i : Int) + 1) = ((i + 1 : Nat) : Int)
         rw [wrap_i64 (by omega) (by omega)]
         omega)
      | (have hB : ¬ (i : Int) < (s.size : Int) := of_decide_eq_false hB
         have hik : i = 8 := by omega
         subst hik
         rfl)
      | trace_state
  · repeat' (conv => whnf
             first
              | (with_reducible exact True.intro)
              | (with_reducible rfl)
              | (with_reducible exact castL_self _ _)
              | ((with_reducible refine V.same_t ?_); exact rfl)
              | (with_reducible refine iteB_n ?_)
              | ((with_reducible refine andB_i ?_ ?_); · (first | (with_reducible assumption) | (with_reducible exact decide_eq_true rfl) | (with_reducible exact sEq_self _) | ((with_reducible refine eqOK_i ?_); kernel_rfl)))
              | ((with_reducible refine iteB_t ?_ ?_); · (first | (with_reducible assumption) | (with_reducible exact decide_eq_true rfl) | (with_reducible exact sEq_self _) | ((with_reducible refine eqOK_i ?_); kernel_rfl)))
              | ((with_reducible refine iteB_f ?_ ?_); · (first | (with_reducible assumption) | (with_reducible exact decide_eq_true rfl) | (with_reducible exact sEq_self _) | ((with_reducible refine eqOK_i ?_); kernel_rfl)))
              | (with_reducible refine andB_i ?_ ?_)
              | (with_reducible refine iteB_s (fun hB => ?_) (fun hB => ?_))
              | (with_reducible refine CD.wk_as ?_)
              | (with_reducible refine And.intro ?_ ?_))
    all_goals (conv => whnf)
    all_goals rfl
noncomputable def numberF (args : List V) : Option (List Bool × V) := match args with
  | [.str s] => some ([decide (s.size = 8)], .int .u64 (spV s 0))
  | _ => none
theorem numberF_ok (args : List V) (c : List Bool) (v : V) (h : numberF args = some (c, v)) (hc : allB c) : PureAt Try.prog 34 args v := by
  unfold numberF at h
  split at h
  · cases h
    exact number_at _ (of_decide_eq_true hc.1)
  · cases h
theorem spV_left (s : ByteArray) : spV (s.extract 0 8) 0 = spV s 0 := by
  rw [spV_eq, spV_eq]
  have hx : (s.extract 0 8).data.toList = s.data.toList.take 8 := by simp
  rw [hx, List.drop_zero, List.drop_zero, List.take_take]
  rfl
theorem spV_right (s : ByteArray) : spV (s.extract 8 s.size) 0 = spV s 8 := by
  rw [spV_eq, spV_eq]
  have hx : (s.extract 8 s.size).data.toList = s.data.toList.drop 8 := by simp [List.take_of_length_le]
  rw [hx, List.drop_zero]
theorem refsplitno_at (s : ByteArray) (hs : decide (Int.ofNat s.size = 16) = false) : PureAt Try.prog 17 [.str s] (.tup [.agg [.int .u64 0, .int .u64 0], .int .i64 4]) := by
  refine pure_of_W0 (tab := noTab) (fuel := 3) (d := 3) noTab_ok ?_
  repeat' (conv => whnf
           first
            | (with_reducible exact True.intro)
            | (with_reducible rfl)
            | (with_reducible exact castL_self _ _)
            | ((with_reducible refine V.same_t ?_); exact rfl)
            | (with_reducible refine iteB_n ?_)
            | ((with_reducible refine andB_i ?_ ?_); · (first | (with_reducible assumption) | (with_reducible exact decide_eq_true rfl) | (with_reducible exact sEq_self _) | ((with_reducible refine eqOK_i ?_); kernel_rfl)))
            | ((with_reducible refine iteB_t ?_ ?_); · (first | (with_reducible assumption) | (with_reducible exact decide_eq_true rfl) | (with_reducible exact sEq_self _) | ((with_reducible refine eqOK_i ?_); kernel_rfl)))
            | ((with_reducible refine iteB_f ?_ ?_); · (first | (with_reducible assumption) | (with_reducible exact decide_eq_true rfl) | (with_reducible exact sEq_self _) | ((with_reducible refine eqOK_i ?_); kernel_rfl)))
            | (with_reducible refine andB_i ?_ ?_)
            | (with_reducible refine iteB_s (fun hB => ?_) (fun hB => ?_))
            | (with_reducible refine CD.wk_as ?_)
            | (with_reducible refine And.intro ?_ ?_))
  all_goals (conv => whnf)
theorem refsplit_at (s : ByteArray) (hs : s.size = 16) : PureAt Try.prog 17 [.str s] (.tup [.agg [.int .u64 (spV s 0), .int .u64 (spV s 8)], .int .i64 0]) := by
  have h1 : decide (Int.ofNat s.size = 16) = true := by rw [hs]; rfl
  have c1 : decide (Int.toNat 8 ≤ s.size) = true := decide_eq_true (by rw [hs]; decide)
  have c2 : decide (s.size ≤ s.size) = true := decide_eq_true (Nat.le_refl _)
  have c3 : decide ((s.extract 0 (Int.toNat 8)).size = 8) = true := decide_eq_true (by show (s.extract 0 8).size = 8; rw [ByteArray.size_extract]; omega)
  have c4 : decide ((s.extract (Int.toNat 8) s.size).size = 8) = true := decide_eq_true (by show (s.extract 8 s.size).size = 8; rw [ByteArray.size_extract]; omega)
  rw [← spV_left, ← spV_right]
  refine pure_of_W0 (tab := oneTab 34 numberF noTab) (fuel := 3) (d := 3) (oneTab_ok numberF_ok noTab_ok) ?_
  repeat' (conv => whnf
           first
            | (with_reducible exact True.intro)
            | (with_reducible rfl)
            | (with_reducible exact castL_self _ _)
            | ((with_reducible refine V.same_t ?_); exact rfl)
            | (with_reducible refine iteB_n ?_)
            | ((with_reducible refine andB_i ?_ ?_); · (first | (with_reducible assumption) | (with_reducible exact decide_eq_true rfl) | (with_reducible exact sEq_self _) | ((with_reducible refine eqOK_i ?_); kernel_rfl)))
            | ((with_reducible refine iteB_t ?_ ?_); · (first | (with_reducible assumption) | (with_reducible exact decide_eq_true rfl) | (with_reducible exact sEq_self _) | ((with_reducible refine eqOK_i ?_); kernel_rfl)))
            | ((with_reducible refine iteB_f ?_ ?_); · (first | (with_reducible assumption) | (with_reducible exact decide_eq_true rfl) | (with_reducible exact sEq_self _) | ((with_reducible refine eqOK_i ?_); kernel_rfl)))
            | (with_reducible refine andB_i ?_ ?_)
            | (with_reducible refine iteB_s (fun hB => ?_) (fun hB => ?_))
            | (with_reducible refine CD.wk_as ?_)
            | (with_reducible refine And.intro ?_ ?_))
  all_goals (conv => whnf)
  all_goals first
    | rfl
    | trace_state
end Go.Proofs.Ytpdckafighfadaa
