/-
  A text that is read of bytes, as a contract of the reader's method: the program's. No condition but that texts are of a machine's size.
-/
import Derived.Test.YtpdckafighfadaaWireRd
import Derived.Test.YtpdckafighfadaaRecPlain
namespace Go.Proofs.Ytpdckafighfadaa
open Go.Sym
set_option linter.unusedVariables false
set_option maxRecDepth 100000
set_option maxHeartbeats 4000000

noncomputable def numMF (cs args : List V) : Option (List Bool × V × List V) := match cs, args with
  | [.str s, .bool bad], [] => some ([decide (s.size ≤ 9223372036854775807)], .int .u64 (numV s), [.str (numR s), .bool (bad || numB s)])
  | _, _ => none
theorem numMF_ok (cs args : List V) (c : List Bool) (v : V) (cs' : List V) (h : numMF cs args = some (c, v, cs')) (hc : allB c) : MethAt Try.prog 29 cs args v cs' := by
  unfold numMF at h
  split at h
  · cases h
    exact num_at _ _ (of_decide_eq_true hc.1)
  · cases h
noncomputable def mtNum : MTab := oneMT 29 numMF noMT
theorem mtNum_ok : MTabOK Try.prog mtNum := oneMT_ok numMF_ok noMT_ok
/-- a text, is it not well, what is left -/
noncomputable def txV : ByteArray → ByteArray := hide fun s => bif decide (((numR s).size : Int) < numV s) then ⟨#[]⟩ else (numR s).extract 0 (numV s).toNat
noncomputable def txB : ByteArray → Bool := hide fun s => decide (((numR s).size : Int) < numV s) || numB s
noncomputable def txR : ByteArray → ByteArray := hide fun s => bif decide (((numR s).size : Int) < numV s) then ⟨#[]⟩ else (numR s).extract (numV s).toNat (numR s).size
theorem txV_eq (s : ByteArray) : txV s = bif decide (((numR s).size : Int) < numV s) then ⟨#[]⟩ else (numR s).extract 0 (numV s).toNat := by rw [txV, hide_eq]
theorem txB_eq (s : ByteArray) : txB s = (decide (((numR s).size : Int) < numV s) || numB s) := by rw [txB, hide_eq]
theorem txR_eq (s : ByteArray) : txR s = bif decide (((numR s).size : Int) < numV s) then ⟨#[]⟩ else (numR s).extract (numV s).toNat (numR s).size := by rw [txR, hide_eq]
theorem numR_size (s : ByteArray) : (numR s).size ≤ s.size := by
  rw [numR_eq]
  have := Wire.numP_left s.data.toList
  rw [Array.length_toList] at this
  show (Wire.numP s.data.toList).2.2.toArray.size ≤ _
  rw [List.size_toArray]
  exact this
theorem numV_lt (s : ByteArray) : 0 ≤ numV s ∧ numV s < 18446744073709551616 := by
  have := Wire.numP_lt s.data.toList
  rw [numV_eq]; omega
theorem text_at (s : ByteArray) (bad : Bool) (hs : s.size ≤ 9223372036854775807) : MethAt Try.prog 28 [.str s, .bool bad] [] (.str (txV s)) [.str (txR s), .bool (bad || txB s)] := by
  have c0 : decide (s.size ≤ 9223372036854775807) = true := decide_eq_true hs
  have hr := numR_size s
  have hv := numV_lt s
  have hw : IntKind.u64.wrap (Int.ofNat (numR s).size) = ((numR s).size : Int) := wrap_u64 (by simp only [Int.ofNat_eq_natCast]; omega) (by simp only [Int.ofNat_eq_natCast]; omega)
  cases hl : decide (IntKind.u64.wrap (Int.ofNat (numR s).size) < numV s)
  · have hl' : decide (((numR s).size : Int) < numV s) = false := by rw [← hw]; exact hl
    have hl2 := of_decide_eq_false hl'
    have c1 : decide (0 ≤ numV s) = true := decide_eq_true hv.1
    have c2 : decide ((numV s).toNat ≤ (numR s).size) = true := decide_eq_true (by omega)
    rw [txV_eq, txB_eq, txR_eq, hl', Bool.false_or, cond_false, cond_false]
    refine meth_of_M mtNum_ok noTab_ok (fuel := 3) (d := 4) fun t ish => ?_
    repeat' (conv => whnf
             first
              | (with_reducible exact True.intro)
              | (with_reducible rfl)
              | (with_reducible exact castL_self _ _)
              | ((with_reducible refine V.same_t ?_); exact rfl)
              | (with_reducible refine iteB_n ?_)
              | ((with_reducible refine andB_i ?_ ?_); · (first | (with_reducible assumption) | (with_reducible exact decide_eq_true rfl) | (with_reducible exact sEq_self _) | ((with_reducible refine eqOK_i ?_); kernel_rfl)))
              | ((with_reducible refine iteB_t ?_ ?_); · (first | (with_reducible assumption) | (with_reducible exact decide_eq_true rfl) | (with_reducible exact sEq_self _) | ((with_reducible refine eqOK_i ?_); kernel_rfl)))
              | ((with_reducible refine iteB_f ?_ ?_); · (first | (with_reducible assumption) | (with_reducible exact decide_eq_true rfl) | (with_reducible exact sEq_self _) | ((with_reducible refine eqOK_i ?_); kernel_rfl)))
              | (with_reducible refine andB_i ?_ ?_)
              | (with_reducible refine iteB_s (fun hB => ?_) (fun hB => ?_))
              | (with_reducible refine CD.wk_as ?_)
              | (with_reducible refine And.intro ?_ ?_))
    all_goals (conv => whnf)
    exact decide_eq_true (Nat.le_refl _)
  · have hl' : decide (((numR s).size : Int) < numV s) = true := by rw [← hw]; exact hl
    rw [txV_eq, txB_eq, txR_eq, hl', Bool.true_or, Bool.or_true, cond_true, cond_true]
    refine meth_of_M mtNum_ok noTab_ok (fuel := 3) (d := 4) fun t ish => ?_
    repeat' (conv => whnf
             first
              | (with_reducible exact True.intro)
              | (with_reducible rfl)
              | (with_reducible exact castL_self _ _)
              | ((with_reducible refine V.same_t ?_); exact rfl)
              | (with_reducible refine iteB_n ?_)
              | ((with_reducible refine andB_i ?_ ?_); · (first | (with_reducible assumption) | (with_reducible exact decide_eq_true rfl) | (with_reducible exact sEq_self _) | ((with_reducible refine eqOK_i ?_); kernel_rfl)))
              | ((with_reducible refine iteB_t ?_ ?_); · (first | (with_reducible assumption) | (with_reducible exact decide_eq_true rfl) | (with_reducible exact sEq_self _) | ((with_reducible refine eqOK_i ?_); kernel_rfl)))
              | ((with_reducible refine iteB_f ?_ ?_); · (first | (with_reducible assumption) | (with_reducible exact decide_eq_true rfl) | (with_reducible exact sEq_self _) | ((with_reducible refine eqOK_i ?_); kernel_rfl)))
              | (with_reducible refine andB_i ?_ ?_)
              | (with_reducible refine iteB_s (fun hB => ?_) (fun hB => ?_))
              | (with_reducible refine CD.wk_as ?_)
              | (with_reducible refine And.intro ?_ ?_))
    all_goals (conv => whnf)
end Go.Proofs.Ytpdckafighfadaa
