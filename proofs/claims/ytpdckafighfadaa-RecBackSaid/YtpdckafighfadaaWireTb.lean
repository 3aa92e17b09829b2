/-
  The readers' methods, both, as tables. No condition but that texts are of a machine's size.
-/
import Derived.Test.YtpdckafighfadaaWireRr
namespace Go.Proofs.Ytpdckafighfadaa
open Go.Sym
set_option linter.unusedVariables false
set_option maxRecDepth 100000
set_option maxHeartbeats 4000000

theorem refnumMF_ok (cs args : List V) (c : List Bool) (v : V) (cs' : List V) (h : numMF cs args = some (c, v, cs')) (hc : allB c) : MethAt Try.prog 32 cs args v cs' := by
  unfold numMF at h
  split at h
  · cases h
    exact refnum_at _ _ (of_decide_eq_true hc.1)
  · cases h
noncomputable def mtRNum : MTab := oneMT 32 numMF noMT
theorem mtRNum_ok : MTabOK Try.prog mtRNum := oneMT_ok refnumMF_ok noMT_ok
theorem reftext_at (s : ByteArray) (bad : Bool) (hs : s.size ≤ 9223372036854775807) : MethAt Try.prog 31 [.str s, .bool bad] [] (.str (txV s)) [.str (txR s), .bool (bad || txB s)] := by
  have c0 : decide (s.size ≤ 9223372036854775807) = true := decide_eq_true hs
  have hr := numR_size s
  have hv := numV_lt s
  have hw : IntKind.u64.wrap (Int.ofNat (numR s).size) = ((numR s).size : Int) := wrap_u64 (by simp only [Int.ofNat_eq_natCast]; omega) (by simp only [Int.ofNat_eq_natCast]; omega)
  cases hl : decide (IntKind.u64.wrap (Int.ofNat (numR s).size) < numV s)
  · have hl' : decide (((numR s).size : Int) < numV s) = false := by rw [← hw]; exact hl
    have hl2 := of_decide_eq_false hl'
    have c1 : decide (0 ≤ numV s) = true := decide_eq_true hv.1
    have c2 : decide ((numV s).toNat ≤ (numR s).size) = true := decide_eq_true (by omega)
    rw [txV_eq, txB_eq, txR_eq, hl', Bool.false_or, cond_false, cond_false]
    refine meth_of_M mtRNum_ok noTab_ok (fuel := 3) (d := 4) fun t ish => ?_
    repeat' (conv => whnf
             first
              | (with_reducible exact True.intro)
              | (with_reducible rfl)
              | (with_reducible exact castL_self _ _)
              | ((with_reducible refine V.same_t ?_); exact rfl)
              | (with_reducible refine iteB_n ?_)
              | ((with_reducible refine andB_i ?_ ?_); · (first | (with_reducible assumption) | (with_reducible exact decide_eq_true rfl) | (with_reducible exact sEq_self _) | ((with_reducible refine eqOK_i ?_); kernel_rfl)))
              | ((with_reducible refine iteB_t ?_ ?_); · (first | (with_reducible assumption) | (with_reducible exact decide_eq_true rfl) | (with_reducible exact sEq_self _) | ((with_reducible refine eqOK_i ?_); kernel_rfl)))
              | ((with_reducible refine iteB_f ?_ ?_); · (first | (with_reducible assumption) | (with_reducible exact decide_eq_true rfl) | (with_reducible exact sEq_self _) | ((with_reducible refine eqOK_i ?_); kernel_rfl)))
              | (with_reducible refine andB_i ?_ ?_)
              | (with_reducible refine iteB_s (fun hB => ?_) (fun hB => ?_))
              | (with_reducible refine CD.wk_as ?_)
              | (with_reducible refine And.intro ?_ ?_))
    all_goals (conv => whnf)
    exact decide_eq_true (Nat.le_refl _)
  · have hl' : decide (((numR s).size : Int) < numV s) = true := by rw [← hw]; exact hl
    rw [txV_eq, txB_eq, txR_eq, hl', Bool.true_or, Bool.or_true, cond_true, cond_true]
    refine meth_of_M mtRNum_ok noTab_ok (fuel := 3) (d := 4) fun t ish => ?_
    repeat' (conv => whnf
             first
              | (with_reducible exact True.intro)
              | (with_reducible rfl)
              | (with_reducible exact castL_self _ _)
              | ((with_reducible refine V.same_t ?_); exact rfl)
              | (with_reducible refine iteB_n ?_)
              | ((with_reducible refine andB_i ?_ ?_); · (first | (with_reducible assumption) | (with_reducible exact decide_eq_true rfl) | (with_reducible exact sEq_self _) | ((with_reducible refine eqOK_i ?_); kernel_rfl)))
              | ((with_reducible refine iteB_t ?_ ?_); · (first | (with_reducible assumption) | (with_reducible exact decide_eq_true rfl) | (with_reducible exact sEq_self _) | ((with_reducible refine eqOK_i ?_); kernel_rfl)))
              | ((with_reducible refine iteB_f ?_ ?_); · (first | (with_reducible assumption) | (with_reducible exact decide_eq_true rfl) | (with_reducible exact sEq_self _) | ((with_reducible refine eqOK_i ?_); kernel_rfl)))
              | (with_reducible refine andB_i ?_ ?_)
              | (with_reducible refine iteB_s (fun hB => ?_) (fun hB => ?_))
              | (with_reducible refine CD.wk_as ?_)
              | (with_reducible refine And.intro ?_ ?_))
    all_goals (conv => whnf)
noncomputable def textMF (cs args : List V) : Option (List Bool × V × List V) := match cs, args with
  | [.str s, .bool bad], [] => some ([decide (s.size ≤ 9223372036854775807)], .str (txV s), [.str (txR s), .bool (bad || txB s)])
  | _, _ => none
theorem textMF_ok (cs args : List V) (c : List Bool) (v : V) (cs' : List V) (h : textMF cs args = some (c, v, cs')) (hc : allB c) : MethAt Try.prog 28 cs args v cs' := by
  unfold textMF at h
  split at h
  · cases h
    exact text_at _ _ (of_decide_eq_true hc.1)
  · cases h
theorem reftextMF_ok (cs args : List V) (c : List Bool) (v : V) (cs' : List V) (h : textMF cs args = some (c, v, cs')) (hc : allB c) : MethAt Try.prog 31 cs args v cs' := by
  unfold textMF at h
  split at h
  · cases h
    exact reftext_at _ _ (of_decide_eq_true hc.1)
  · cases h
noncomputable def mtRd : MTab := oneMT 29 numMF (oneMT 28 textMF (oneMT 32 numMF (oneMT 31 textMF noMT)))
theorem mtRd_ok : MTabOK Try.prog mtRd := oneMT_ok numMF_ok (oneMT_ok textMF_ok (oneMT_ok refnumMF_ok (oneMT_ok reftextMF_ok noMT_ok)))
theorem txR_size (s : ByteArray) : (txR s).size ≤ s.size := by
  have hr := numR_size s
  rw [txR_eq]
  cases decide (((numR s).size : Int) < numV s)
  · rw [cond_false, ByteArray.size_extract]; omega
  · exact Nat.zero_le _
theorem txV_size (s : ByteArray) : (txV s).size ≤ s.size := by
  have hr := numR_size s
  rw [txV_eq]
  cases decide (((numR s).size : Int) < numV s)
  · rw [cond_false, ByteArray.size_extract]; omega
  · exact Nat.zero_le _
end Go.Proofs.Ytpdckafighfadaa
