/-
  Of which record bytes are: both functions' answer, at any bytes of some hundred. Condition: the length.
-/
import Derived.Test.YtpdckafighfadaaRecSplit
import Derived.Test.YtpdckafighfadaaRecEnc
import Derived.Test.YtpdckafighfadaaRecLays
import Derived.Test.YtpdckafighfadaaWireTb
namespace Go.Proofs.Ytpdckafighfadaa
open Go.Sym
set_option linter.unusedVariables false
set_option maxRecDepth 100000
set_option maxHeartbeats 4000000

noncomputable def decOK : ByteArray → ByteArray → Bool := hide fun key s =>
  decide (key.size = 16) && !sEq s ⟨#[]⟩ && (bif decide (bAt s 0 = 0)
    then decide (recE (spV key 0) (spV key 8) (txV (s.extract 1 s.size)) ⟨#[]⟩ 0 0 0 true = 0) && sEq (recT (spV key 0) (spV key 8) (txV (s.extract 1 s.size)) ⟨#[]⟩ 0 0 0 true) s && !txB (s.extract 1 s.size) && sEq (txR (s.extract 1 s.size)) ⟨#[]⟩
    else decide (recE (spV key 0) (spV key 8) (txV (s.extract 1 s.size)) (txV (txR (s.extract 1 s.size))) (numV (txR (txR (s.extract 1 s.size)))) (spV key 0) (numV (numR (txR (txR (s.extract 1 s.size))))) false = 0) &&
      sEq (recT (spV key 0) (spV key 8) (txV (s.extract 1 s.size)) (txV (txR (s.extract 1 s.size))) (numV (txR (txR (s.extract 1 s.size)))) (spV key 0) (numV (numR (txR (txR (s.extract 1 s.size))))) false) s &&
      !(((txB (s.extract 1 s.size) || txB (txR (s.extract 1 s.size))) || numB (txR (txR (s.extract 1 s.size)))) || numB (numR (txR (txR (s.extract 1 s.size))))) && sEq (numR (numR (txR (txR (s.extract 1 s.size))))) ⟨#[]⟩)
theorem decOK_eq (key s : ByteArray) : decOK key s = (decide (key.size = 16) && !sEq s ⟨#[]⟩ && (bif decide (bAt s 0 = 0)
    then decide (recE (spV key 0) (spV key 8) (txV (s.extract 1 s.size)) ⟨#[]⟩ 0 0 0 true = 0) && sEq (recT (spV key 0) (spV key 8) (txV (s.extract 1 s.size)) ⟨#[]⟩ 0 0 0 true) s && !txB (s.extract 1 s.size) && sEq (txR (s.extract 1 s.size)) ⟨#[]⟩
    else decide (recE (spV key 0) (spV key 8) (txV (s.extract 1 s.size)) (txV (txR (s.extract 1 s.size))) (numV (txR (txR (s.extract 1 s.size)))) (spV key 0) (numV (numR (txR (txR (s.extract 1 s.size))))) false = 0) &&
      sEq (recT (spV key 0) (spV key 8) (txV (s.extract 1 s.size)) (txV (txR (s.extract 1 s.size))) (numV (txR (txR (s.extract 1 s.size)))) (spV key 0) (numV (numR (txR (txR (s.extract 1 s.size))))) false) s &&
      !(((txB (s.extract 1 s.size) || txB (txR (s.extract 1 s.size))) || numB (txR (txR (s.extract 1 s.size)))) || numB (numR (txR (txR (s.extract 1 s.size))))) && sEq (numR (numR (txR (txR (s.extract 1 s.size))))) ⟨#[]⟩)) := by rw [decOK, hide_eq]
noncomputable def dcM : ByteArray → ByteArray → Int := hide fun key s => bif decOK key s then spV key 0 else 0
noncomputable def dcN : ByteArray → ByteArray → Int := hide fun key s => bif decOK key s then spV key 8 else 0
noncomputable def dcK : ByteArray → ByteArray → ByteArray := hide fun key s => bif decOK key s then txV (s.extract 1 s.size) else ⟨#[]⟩
noncomputable def dcT : ByteArray → ByteArray → Bool := hide fun key s => decOK key s && decide (bAt s 0 = 0)
noncomputable def dcV : ByteArray → ByteArray → ByteArray := hide fun key s => bif decOK key s && !decide (bAt s 0 = 0) then txV (txR (s.extract 1 s.size)) else ⟨#[]⟩
noncomputable def dcC : ByteArray → ByteArray → Int := hide fun key s => bif decOK key s && !decide (bAt s 0 = 0) then numV (txR (txR (s.extract 1 s.size))) else 0
noncomputable def dcD : ByteArray → ByteArray → Int := hide fun key s => bif decOK key s && !decide (bAt s 0 = 0) then spV key 0 else 0
noncomputable def dcW : ByteArray → ByteArray → Int := hide fun key s => bif decOK key s && !decide (bAt s 0 = 0) then numV (numR (txR (txR (s.extract 1 s.size)))) else 0
noncomputable def dcE : ByteArray → ByteArray → Int := hide fun key s => bif decOK key s then 0 else 4
noncomputable def decR (key s : ByteArray) : V := .tup [.agg [.int .u64 (dcM key s), .int .u64 (dcN key s), .str (dcK key s), .str (dcV key s), .int .u64 (dcC key s), .int .u64 (dcD key s), .int .u64 (dcW key s), .bool (dcT key s)], .int .i64 (dcE key s)]
theorem dec_no {key s : ByteArray} (h : decOK key s = false) : V.tup [.agg [.int .u64 0, .int .u64 0, .str ⟨#[]⟩, .str ⟨#[]⟩, .int .u64 0, .int .u64 0, .int .u64 0, .bool false], .int .i64 4] = decR key s := by
  simp only [decR, dcM, dcN, dcK, dcV, dcC, dcD, dcW, dcT, dcE, hide_eq, h, cond_false, Bool.false_and]
theorem dec_tomb {key s : ByteArray} (h : decOK key s = true) (ht : decide (bAt s 0 = 0) = true) : V.tup [.agg [.int .u64 (spV key 0), .int .u64 (spV key 8), .str (txV (s.extract 1 s.size)), .str ⟨#[]⟩, .int .u64 0, .int .u64 0, .int .u64 0, .bool true], .int .i64 0] = decR key s := by
  simp only [decR, dcM, dcN, dcK, dcV, dcC, dcD, dcW, dcT, dcE, hide_eq, h, ht, cond_true, cond_false, Bool.true_and, Bool.not_true]
theorem dec_put {key s : ByteArray} (h : decOK key s = true) (ht : decide (bAt s 0 = 0) = false) : V.tup [.agg [.int .u64 (spV key 0), .int .u64 (spV key 8), .str (txV (s.extract 1 s.size)), .str (txV (txR (s.extract 1 s.size))), .int .u64 (numV (txR (txR (s.extract 1 s.size)))), .int .u64 (spV key 0), .int .u64 (numV (numR (txR (txR (s.extract 1 s.size))))), .bool false], .int .i64 0] = decR key s := by
  simp only [decR, dcM, dcN, dcK, dcV, dcC, dcD, dcW, dcT, dcE, hide_eq, h, ht, cond_true, cond_false, Bool.true_and, Bool.and_true, Bool.not_false]
noncomputable def splitNoF (args : List V) : Option (List Bool × V) := match args with
  | [.str s] => some ([!decide (Int.ofNat s.size = 16)], .tup [.agg [.int .u64 0, .int .u64 0], .int .i64 4])
  | _ => none
theorem splitNoF_ok (args : List V) (c : List Bool) (v : V) (h : splitNoF args = some (c, v)) (hc : allB c) : PureAt Try.prog 16 args v := by
  unfold splitNoF at h
  split at h
  · cases h
    exact splitno_at _ (by have := hc.1; rw [Bool.not_eq_true'] at this; exact this)
  · cases h
theorem refsplitNoF_ok (args : List V) (c : List Bool) (v : V) (h : splitNoF args = some (c, v)) (hc : allB c) : PureAt Try.prog 17 args v := by
  unfold splitNoF at h
  split at h
  · cases h
    exact refsplitno_at _ (by have := hc.1; rw [Bool.not_eq_true'] at this; exact this)
  · cases h
theorem refsplitF_ok (args : List V) (c : List Bool) (v : V) (h : splitF args = some (c, v)) (hc : allB c) : PureAt Try.prog 17 args v := by
  unfold splitF at h
  split at h
  · cases h
    exact refsplit_at _ (of_decide_eq_true hc.1)
  · cases h
noncomputable def tabDec (F : List V → Option (List Bool × V)) : Tab := oneTab 9 encF (oneTab 10 encF (oneTab 16 F (oneTab 17 F noTab)))
theorem tabDec_no : TabOK Try.prog (tabDec splitNoF) := oneTab_ok encF_ok (oneTab_ok refencF_ok (oneTab_ok splitNoF_ok (oneTab_ok refsplitNoF_ok noTab_ok)))
theorem tabDec_is : TabOK Try.prog (tabDec splitF) := oneTab_ok encF_ok (oneTab_ok refencF_ok (oneTab_ok splitF_ok (oneTab_ok refsplitF_ok noTab_ok)))
theorem decno_at (key s : ByteArray) (h : decide (Int.ofNat key.size = 16) = false) : PureAt Try.prog 14 [.str key, .str s] (decR key s) := by
  have h' : (!decide (Int.ofNat key.size = 16)) = true := by rw [h]; rfl
  have hk : decide (key.size = 16) = false := decide_eq_false (fun e => of_decide_eq_false h (by rw [e]; rfl))
  rw [← dec_no (by rw [decOK_eq, hk, Bool.false_and, Bool.false_and])]
  refine pure_of_M mtRd_ok tabDec_no (fuel := 3) (d := 4) ?_
  repeat' (conv => whnf
           first
            | (with_reducible exact True.intro)
            | (with_reducible rfl)
            | (with_reducible exact castL_self _ _)
            | ((with_reducible refine V.same_t ?_); exact rfl)
            | (with_reducible refine iteB_n ?_)
            | ((with_reducible refine andB_i ?_ ?_); · (first | (with_reducible assumption) | (with_reducible exact decide_eq_true rfl) | (with_reducible exact sEq_self _) | ((with_reducible refine eqOK_i ?_); kernel_rfl)))
            | ((with_reducible refine iteB_t ?_ ?_); · (first | (with_reducible assumption) | (with_reducible exact decide_eq_true rfl) | (with_reducible exact sEq_self _) | ((with_reducible refine eqOK_i ?_); kernel_rfl)))
            | ((with_reducible refine iteB_f ?_ ?_); · (first | (with_reducible assumption) | (with_reducible exact decide_eq_true rfl) | (with_reducible exact sEq_self _) | ((with_reducible refine eqOK_i ?_); kernel_rfl)))
            | (with_reducible refine andB_i ?_ ?_)
            | (with_reducible refine iteB_s (fun hB => ?_) (fun hB => ?_))
            | (with_reducible refine CD.wk_as ?_)
            | (with_reducible refine And.intro ?_ ?_))
  all_goals (conv => whnf)
theorem refdecno_at (key s : ByteArray) (h : decide (Int.ofNat key.size = 16) = false) : PureAt Try.prog 15 [.str key, .str s] (decR key s) := by
  have h' : (!decide (Int.ofNat key.size = 16)) = true := by rw [h]; rfl
  have hk : decide (key.size = 16) = false := decide_eq_false (fun e => of_decide_eq_false h (by rw [e]; rfl))
  rw [← dec_no (by rw [decOK_eq, hk, Bool.false_and, Bool.false_and])]
  refine pure_of_M mtRd_ok tabDec_no (fuel := 3) (d := 4) ?_
  repeat' (conv => whnf
           first
            | (with_reducible exact True.intro)
            | (with_reducible rfl)
            | (with_reducible exact castL_self _ _)
            | ((with_reducible refine V.same_t ?_); exact rfl)
            | (with_reducible refine iteB_n ?_)
            | ((with_reducible refine andB_i ?_ ?_); · (first | (with_reducible assumption) | (with_reducible exact decide_eq_true rfl) | (with_reducible exact sEq_self _) | ((with_reducible refine eqOK_i ?_); kernel_rfl)))
            | ((with_reducible refine iteB_t ?_ ?_); · (first | (with_reducible assumption) | (with_reducible exact decide_eq_true rfl) | (with_reducible exact sEq_self _) | ((with_reducible refine eqOK_i ?_); kernel_rfl)))
            | ((with_reducible refine iteB_f ?_ ?_); · (first | (with_reducible assumption) | (with_reducible exact decide_eq_true rfl) | (with_reducible exact sEq_self _) | ((with_reducible refine eqOK_i ?_); kernel_rfl)))
            | (with_reducible refine andB_i ?_ ?_)
            | (with_reducible refine iteB_s (fun hB => ?_) (fun hB => ?_))
            | (with_reducible refine CD.wk_as ?_)
            | (with_reducible refine And.intro ?_ ?_))
  all_goals (conv => whnf)
theorem spV_in (s : ByteArray) (o : Nat) : 0 ≤ spV s o ∧ spV s o < 18446744073709551616 := by
  have h := valU_lt ((s.data.toList.drop o).take 8)
  have hl : ((s.data.toList.drop o).take 8).length ≤ 8 := List.length_take_le _ _
  have hp : (256 : Nat) ^ ((s.data.toList.drop o).take 8).length ≤ 256 ^ 8 := Nat.pow_le_pow_right (by decide) hl
  rw [spV_eq]; omega
theorem decnil_at (key s : ByteArray) (hk : decide (key.size = 16) = true) (h0 : sEq s ⟨#[]⟩ = true) : PureAt Try.prog 14 [.str key, .str s] (decR key s) := by
  have ca : (bif false then true else sEq s ⟨#[]⟩) = true := h0
  rw [← dec_no (by rw [decOK_eq, h0, Bool.not_true, Bool.and_false, Bool.false_and])]
  refine pure_of_M mtRd_ok tabDec_is (fuel := 3) (d := 4) ?_
  repeat' (conv => whnf
           first
            | (with_reducible exact True.intro)
            | (with_reducible rfl)
            | (with_reducible exact castL_self _ _)
            | ((with_reducible refine V.same_t ?_); exact rfl)
            | (with_reducible refine iteB_n ?_)
            | ((with_reducible refine andB_i ?_ ?_); · (first | (with_reducible assumption) | (with_reducible exact decide_eq_true rfl) | (with_reducible exact sEq_self _) | ((with_reducible refine eqOK_i ?_); kernel_rfl)))
            | ((with_reducible refine iteB_t ?_ ?_); · (first | (with_reducible assumption) | (with_reducible exact decide_eq_true rfl) | (with_reducible exact sEq_self _) | ((with_reducible refine eqOK_i ?_); kernel_rfl)))
            | ((with_reducible refine iteB_f ?_ ?_); · (first | (with_reducible assumption) | (with_reducible exact decide_eq_true rfl) | (with_reducible exact sEq_self _) | ((with_reducible refine eqOK_i ?_); kernel_rfl)))
            | (with_reducible refine andB_i ?_ ?_)
            | (with_reducible refine iteB_s (fun hB => ?_) (fun hB => ?_))
            | (with_reducible refine CD.wk_as ?_)
            | (with_reducible refine And.intro ?_ ?_))
  all_goals (conv => whnf)
theorem dectomb_at (key s : ByteArray) (hk : decide (key.size = 16) = true) (h0 : sEq s ⟨#[]⟩ = false) (hz : s.size ≤ 120) (hp : 0 < s.size) (ht : decide (bAt s (Int.toNat 0) = 0) = true) (ht' : sEq (s.extract 0 (Int.toNat 1)) ⟨#[0]⟩ = true) : PureAt Try.prog 14 [.str key, .str s] (decR key s) := by
  have c1 : decide (Int.toNat 0 < s.size) = true := decide_eq_true hp
  have c2 : decide (Int.toNat 1 ≤ s.size) = true := decide_eq_true hp
  have c3 : decide (s.size ≤ s.size) = true := decide_eq_true (Nat.le_refl _)
  have hx : (s.extract 1 s.size).size ≤ 120 := by rw [ByteArray.size_extract]; omega
  have c4 : decide ((s.extract (Int.toNat 1) s.size).size ≤ 9223372036854775807) = true := decide_eq_true (by show (s.extract 1 s.size).size ≤ _; omega)
  have c5 : decide (0 ≤ spV key 0) = true := decide_eq_true (spV_in key 0).1
  have c6 : decide (spV key 0 < 18446744073709551616) = true := decide_eq_true (spV_in key 0).2
  have c7 : decide (0 ≤ spV key 8) = true := decide_eq_true (spV_in key 8).1
  have c8 : decide (spV key 8 < 18446744073709551616) = true := decide_eq_true (spV_in key 8).2
  have c9 : decide ((txV (s.extract (Int.toNat 1) s.size)).size ≤ 1000) = true := decide_eq_true (Nat.le_trans (txV_size _) (by show (s.extract 1 s.size).size ≤ _; omega))
  have ca : (bif false then true else sEq s ⟨#[]⟩) = false := h0
  refine pure_of_M mtRd_ok tabDec_is (fuel := 3) (d := 4) ?_
  repeat' (conv => whnf
           first
            | (with_reducible exact True.intro)
            | (with_reducible rfl)
            | (with_reducible exact castL_self _ _)
            | ((with_reducible refine V.same_t ?_); exact rfl)
            | (with_reducible refine iteB_n ?_)
            | ((with_reducible refine andB_i ?_ ?_); · (first | (with_reducible assumption) | (with_reducible exact decide_eq_true rfl) | (with_reducible exact sEq_self _) | ((with_reducible refine eqOK_i ?_); kernel_rfl)))
            | ((with_reducible refine iteB_t ?_ ?_); · (first | (with_reducible assumption) | (with_reducible exact decide_eq_true rfl) | (with_reducible exact sEq_self _) | ((with_reducible refine eqOK_i ?_); kernel_rfl)))
            | ((with_reducible refine iteB_f ?_ ?_); · (first | (with_reducible assumption) | (with_reducible exact decide_eq_true rfl) | (with_reducible exact sEq_self _) | ((with_reducible refine eqOK_i ?_); kernel_rfl)))
            | (with_reducible refine andB_i ?_ ?_)
            | (with_reducible refine iteB_s (fun hB => ?_) (fun hB => ?_))
            | (with_reducible refine CD.wk_as ?_)
            | (with_reducible refine And.intro ?_ ?_))
  all_goals (conv => whnf)
  all_goals first
    | rfl
    | (refine dec_no ?_; rw [decOK_eq]; simp_all; done)
    | (rw [ht']; refine dec_tomb ?_ ht; rw [decOK_eq]; simp_all; done)
    | trace_state
theorem decput_at (key s : ByteArray) (hk : decide (key.size = 16) = true) (h0 : sEq s ⟨#[]⟩ = false) (hz : s.size ≤ 120) (hp : 0 < s.size) (ht : decide (bAt s (Int.toNat 0) = 0) = false) (ht' : sEq (s.extract 0 (Int.toNat 1)) ⟨#[0]⟩ = false) : PureAt Try.prog 14 [.str key, .str s] (decR key s) := by
  have c1 : decide (Int.toNat 0 < s.size) = true := decide_eq_true hp
  have c2 : decide (Int.toNat 1 ≤ s.size) = true := decide_eq_true hp
  have c3 : decide (s.size ≤ s.size) = true := decide_eq_true (Nat.le_refl _)
  have hx : (s.extract 1 s.size).size ≤ 120 := by rw [ByteArray.size_extract]; omega
  have c4 : decide ((s.extract (Int.toNat 1) s.size).size ≤ 9223372036854775807) = true := decide_eq_true (by show (s.extract 1 s.size).size ≤ _; omega)
  have c5 : decide (0 ≤ spV key 0) = true := decide_eq_true (spV_in key 0).1
  have c6 : decide (spV key 0 < 18446744073709551616) = true := decide_eq_true (spV_in key 0).2
  have c7 : decide (0 ≤ spV key 8) = true := decide_eq_true (spV_in key 8).1
  have c8 : decide (spV key 8 < 18446744073709551616) = true := decide_eq_true (spV_in key 8).2
  have c9 : decide ((txV (s.extract (Int.toNat 1) s.size)).size ≤ 1000) = true := decide_eq_true (Nat.le_trans (txV_size _) (by show (s.extract 1 s.size).size ≤ _; omega))
  have ca : (bif false then true else sEq s ⟨#[]⟩) = false := h0
  have d1 := txR_size (s.extract 1 s.size)
  have d2 := txR_size (txR (s.extract 1 s.size))
  have d3 := numR_size (txR (txR (s.extract 1 s.size)))
  have d4 : decide ((txR (s.extract (Int.toNat 1) s.size)).size ≤ 9223372036854775807) = true := decide_eq_true (by show (txR (s.extract 1 s.size)).size ≤ _; omega)
  have d5 : decide ((txR (txR (s.extract (Int.toNat 1) s.size))).size ≤ 9223372036854775807) = true := decide_eq_true (by show (txR (txR (s.extract 1 s.size))).size ≤ _; omega)
  have d6 : decide ((numR (txR (txR (s.extract (Int.toNat 1) s.size)))).size ≤ 9223372036854775807) = true := decide_eq_true (by show (numR (txR (txR (s.extract 1 s.size)))).size ≤ _; omega)
  have d7 : decide ((txV (txR (s.extract (Int.toNat 1) s.size))).size ≤ 1000) = true := decide_eq_true (Nat.le_trans (txV_size _) (by show (txR (s.extract 1 s.size)).size ≤ _; omega))
  have e1 := numV_lt (txR (txR (s.extract 1 s.size)))
  have e2 := numV_lt (numR (txR (txR (s.extract 1 s.size))))
  have e3 : decide (0 ≤ numV (txR (txR (s.extract (Int.toNat 1) s.size)))) = true := decide_eq_true e1.1
  have e4 : decide (numV (txR (txR (s.extract (Int.toNat 1) s.size))) < 18446744073709551616) = true := decide_eq_true e1.2
  have e5 : decide (0 ≤ numV (numR (txR (txR (s.extract (Int.toNat 1) s.size))))) = true := decide_eq_true e2.1
  have e6 : decide (numV (numR (txR (txR (s.extract (Int.toNat 1) s.size)))) < 18446744073709551616) = true := decide_eq_true e2.2
  refine pure_of_M mtRd_ok tabDec_is (fuel := 3) (d := 4) ?_
  repeat' (conv => whnf
           first
            | (with_reducible exact True.intro)
            | (with_reducible rfl)
            | (with_reducible exact castL_self _ _)
            | ((with_reducible refine V.same_t ?_); exact rfl)
            | (with_reducible refine iteB_n ?_)
            | ((with_reducible refine andB_i ?_ ?_); · (first | (with_reducible assumption) | (with_reducible exact decide_eq_true rfl) | (with_reducible exact sEq_self _) | ((with_reducible refine eqOK_i ?_); kernel_rfl)))
            | ((with_reducible refine iteB_t ?_ ?_); · (first | (with_reducible assumption) | (with_reducible exact decide_eq_true rfl) | (with_reducible exact sEq_self _) | ((with_reducible refine eqOK_i ?_); kernel_rfl)))
            | ((with_reducible refine iteB_f ?_ ?_); · (first | (with_reducible assumption) | (with_reducible exact decide_eq_true rfl) | (with_reducible exact sEq_self _) | ((with_reducible refine eqOK_i ?_); kernel_rfl)))
            | (with_reducible refine andB_i ?_ ?_)
            | (with_reducible refine iteB_s (fun hB => ?_) (fun hB => ?_))
            | (with_reducible refine CD.wk_as ?_)
            | (with_reducible refine And.intro ?_ ?_))
  all_goals (conv => whnf)
  all_goals first
    | rfl
    | (clear c1 c2 c3 c4 c5 c6 c7 c8 c9 d1 d2 d3 d4 d5 d6 d7 e1 e2 e3 e4 e5 e6 hz hx; refine dec_no ?_; rw [decOK_eq]; simp_all; done)
    | (refine dec_no ?_
       rw [Bool.false_or] at hB
       have hB : (((txB (s.extract 1 s.size) || txB (txR (s.extract 1 s.size))) || numB (txR (txR (s.extract 1 s.size)))) || numB (numR (txR (txR (s.extract 1 s.size))))) = true := hB
       rw [decOK_eq, show decide (bAt s 0 = 0) = false from ht, cond_false, hB]
       simp only [Bool.not_true, Bool.and_false, Bool.false_and]
       done)
    | (clear c1 c2 c3 c4 c5 c6 c7 c8 c9 d1 d2 d3 d4 d5 d6 d7 e1 e2 e3 e4 e5 e6 hz hx; rw [ht']; refine dec_put ?_ ht; rw [decOK_eq]; simp_all; done)
    | trace_state
theorem refdecnil_at (key s : ByteArray) (hk : decide (key.size = 16) = true) (h0 : sEq s ⟨#[]⟩ = true) : PureAt Try.prog 15 [.str key, .str s] (decR key s) := by
  have ca : (bif false then true else sEq s ⟨#[]⟩) = true := h0
  rw [← dec_no (by rw [decOK_eq, h0, Bool.not_true, Bool.and_false, Bool.false_and])]
  refine pure_of_M mtRd_ok tabDec_is (fuel := 3) (d := 4) ?_
  repeat' (conv => whnf
           first
            | (with_reducible exact True.intro)
            | (with_reducible rfl)
            | (with_reducible exact castL_self _ _)
            | ((with_reducible refine V.same_t ?_); exact rfl)
            | (with_reducible refine iteB_n ?_)
            | ((with_reducible refine andB_i ?_ ?_); · (first | (with_reducible assumption) | (with_reducible exact decide_eq_true rfl) | (with_reducible exact sEq_self _) | ((with_reducible refine eqOK_i ?_); kernel_rfl)))
            | ((with_reducible refine iteB_t ?_ ?_); · (first | (with_reducible assumption) | (with_reducible exact decide_eq_true rfl) | (with_reducible exact sEq_self _) | ((with_reducible refine eqOK_i ?_); kernel_rfl)))
            | ((with_reducible refine iteB_f ?_ ?_); · (first | (with_reducible assumption) | (with_reducible exact decide_eq_true rfl) | (with_reducible exact sEq_self _) | ((with_reducible refine eqOK_i ?_); kernel_rfl)))
            | (with_reducible refine andB_i ?_ ?_)
            | (with_reducible refine iteB_s (fun hB => ?_) (fun hB => ?_))
            | (with_reducible refine CD.wk_as ?_)
            | (with_reducible refine And.intro ?_ ?_))
  all_goals (conv => whnf)
theorem refdectomb_at (key s : ByteArray) (hk : decide (key.size = 16) = true) (h0 : sEq s ⟨#[]⟩ = false) (hz : s.size ≤ 120) (hp : 0 < s.size) (ht : decide (bAt s (Int.toNat 0) = 0) = true) (ht' : sEq (s.extract 0 (Int.toNat 1)) ⟨#[0]⟩ = true) : PureAt Try.prog 15 [.str key, .str s] (decR key s) := by
  have c1 : decide (Int.toNat 0 < s.size) = true := decide_eq_true hp
  have c2 : decide (Int.toNat 1 ≤ s.size) = true := decide_eq_true hp
  have c3 : decide (s.size ≤ s.size) = true := decide_eq_true (Nat.le_refl _)
  have hx : (s.extract 1 s.size).size ≤ 120 := by rw [ByteArray.size_extract]; omega
  have c4 : decide ((s.extract (Int.toNat 1) s.size).size ≤ 9223372036854775807) = true := decide_eq_true (by show (s.extract 1 s.size).size ≤ _; omega)
  have c5 : decide (0 ≤ spV key 0) = true := decide_eq_true (spV_in key 0).1
  have c6 : decide (spV key 0 < 18446744073709551616) = true := decide_eq_true (spV_in key 0).2
  have c7 : decide (0 ≤ spV key 8) = true := decide_eq_true (spV_in key 8).1
  have c8 : decide (spV key 8 < 18446744073709551616) = true := decide_eq_true (spV_in key 8).2
  have c9 : decide ((txV (s.extract (Int.toNat 1) s.size)).size ≤ 1000) = true := decide_eq_true (Nat.le_trans (txV_size _) (by show (s.extract 1 s.size).size ≤ _; omega))
  have ca : (bif false then true else sEq s ⟨#[]⟩) = false := h0
  refine pure_of_M mtRd_ok tabDec_is (fuel := 3) (d := 4) ?_
  repeat' (conv => whnf
           first
            | (with_reducible exact True.intro)
            | (with_reducible rfl)
            | (with_reducible exact castL_self _ _)
            | ((with_reducible refine V.same_t ?_); exact rfl)
            | (with_reducible refine iteB_n ?_)
            | ((with_reducible refine andB_i ?_ ?_); · (first | (with_reducible assumption) | (with_reducible exact decide_eq_true rfl) | (with_reducible exact sEq_self _) | ((with_reducible refine eqOK_i ?_); kernel_rfl)))
            | ((with_reducible refine iteB_t ?_ ?_); · (first | (with_reducible assumption) | (with_reducible exact decide_eq_true rfl) | (with_reducible exact sEq_self _) | ((with_reducible refine eqOK_i ?_); kernel_rfl)))
            | ((with_reducible refine iteB_f ?_ ?_); · (first | (with_reducible assumption) | (with_reducible exact decide_eq_true rfl) | (with_reducible exact sEq_self _) | ((with_reducible refine eqOK_i ?_); kernel_rfl)))
            | (with_reducible refine andB_i ?_ ?_)
            | (with_reducible refine iteB_s (fun hB => ?_) (fun hB => ?_))
            | (with_reducible refine CD.wk_as ?_)
            | (with_reducible refine And.intro ?_ ?_))
  all_goals (conv => whnf)
  all_goals first
    | rfl
    | (refine dec_no ?_; rw [decOK_eq]; simp_all; done)
    | (rw [ht]; refine dec_tomb ?_ ht; rw [decOK_eq]; simp_all; done)
    | trace_state
theorem refdecput_at (key s : ByteArray) (hk : decide (key.size = 16) = true) (h0 : sEq s ⟨#[]⟩ = false) (hz : s.size ≤ 120) (hp : 0 < s.size) (ht : decide (bAt s (Int.toNat 0) = 0) = false) (ht' : sEq (s.extract 0 (Int.toNat 1)) ⟨#[0]⟩ = false) : PureAt Try.prog 15 [.str key, .str s] (decR key s) := by
  have c1 : decide (Int.toNat 0 < s.size) = true := decide_eq_true hp
  have c2 : decide (Int.toNat 1 ≤ s.size) = true := decide_eq_true hp
  have c3 : decide (s.size ≤ s.size) = true := decide_eq_true (Nat.le_refl _)
  have hx : (s.extract 1 s.size).size ≤ 120 := by rw [ByteArray.size_extract]; omega
  have c4 : decide ((s.extract (Int.toNat 1) s.size).size ≤ 9223372036854775807) = true := decide_eq_true (by show (s.extract 1 s.size).size ≤ _; omega)
  have c5 : decide (0 ≤ spV key 0) = true := decide_eq_true (spV_in key 0).1
  have c6 : decide (spV key 0 < 18446744073709551616) = true := decide_eq_true (spV_in key 0).2
  have c7 : decide (0 ≤ spV key 8) = true := decide_eq_true (spV_in key 8).1
  have c8 : decide (spV key 8 < 18446744073709551616) = true := decide_eq_true (spV_in key 8).2
  have c9 : decide ((txV (s.extract (Int.toNat 1) s.size)).size ≤ 1000) = true := decide_eq_true (Nat.le_trans (txV_size _) (by show (s.extract 1 s.size).size ≤ _; omega))
  have ca : (bif false then true else sEq s ⟨#[]⟩) = false := h0
  have d1 := txR_size (s.extract 1 s.size)
  have d2 := txR_size (txR (s.extract 1 s.size))
  have d3 := numR_size (txR (txR (s.extract 1 s.size)))
  have d4 : decide ((txR (s.extract (Int.toNat 1) s.size)).size ≤ 9223372036854775807) = true := decide_eq_true (by show (txR (s.extract 1 s.size)).size ≤ _; omega)
  have d5 : decide ((txR (txR (s.extract (Int.toNat 1) s.size))).size ≤ 9223372036854775807) = true := decide_eq_true (by show (txR (txR (s.extract 1 s.size))).size ≤ _; omega)
  have d6 : decide ((numR (txR (txR (s.extract (Int.toNat 1) s.size)))).size ≤ 9223372036854775807) = true := decide_eq_true (by show (numR (txR (txR (s.extract 1 s.size)))).size ≤ _; omega)
  have d7 : decide ((txV (txR (s.extract (Int.toNat 1) s.size))).size ≤ 1000) = true := decide_eq_true (Nat.le_trans (txV_size _) (by show (txR (s.extract 1 s.size)).size ≤ _; omega))
  have e1 := numV_lt (txR (txR (s.extract 1 s.size)))
  have e2 := numV_lt (numR (txR (txR (s.extract 1 s.size))))
  have e3 : decide (0 ≤ numV (txR (txR (s.extract (Int.toNat 1) s.size)))) = true := decide_eq_true e1.1
  have e4 : decide (numV (txR (txR (s.extract (Int.toNat 1) s.size))) < 18446744073709551616) = true := decide_eq_true e1.2
  have e5 : decide (0 ≤ numV (numR (txR (txR (s.extract (Int.toNat 1) s.size))))) = true := decide_eq_true e2.1
  have e6 : decide (numV (numR (txR (txR (s.extract (Int.toNat 1) s.size)))) < 18446744073709551616) = true := decide_eq_true e2.2
  refine pure_of_M mtRd_ok tabDec_is (fuel := 3) (d := 4) ?_
  repeat' (conv => whnf
           first
            | (with_reducible exact True.intro)
            | (with_reducible rfl)
            | (with_reducible exact castL_self _ _)
            | ((with_reducible refine V.same_t ?_); exact rfl)
            | (with_reducible refine iteB_n ?_)
            | ((with_reducible refine andB_i ?_ ?_); · (first | (with_reducible assumption) | (with_reducible exact decide_eq_true rfl) | (with_reducible exact sEq_self _) | ((with_reducible refine eqOK_i ?_); kernel_rfl)))
            | ((with_reducible refine iteB_t ?_ ?_); · (first | (with_reducible assumption) | (with_reducible exact decide_eq_true rfl) | (with_reducible exact sEq_self _) | ((with_reducible refine eqOK_i ?_); kernel_rfl)))
            | ((with_reducible refine iteB_f ?_ ?_); · (first | (with_reducible assumption) | (with_reducible exact decide_eq_true rfl) | (with_reducible exact sEq_self _) | ((with_reducible refine eqOK_i ?_); kernel_rfl)))
            | (with_reducible refine andB_i ?_ ?_)
            | (with_reducible refine iteB_s (fun hB => ?_) (fun hB => ?_))
            | (with_reducible refine CD.wk_as ?_)
            | (with_reducible refine And.intro ?_ ?_))
  all_goals (conv => whnf)
  all_goals first
    | rfl
    | (clear c1 c2 c3 c4 c5 c6 c7 c8 c9 d1 d2 d3 d4 d5 d6 d7 e1 e2 e3 e4 e5 e6 hz hx; refine dec_no ?_; rw [decOK_eq]; simp_all; done)
    | (refine dec_no ?_
       rw [Bool.false_or] at hB
       have hB : (((txB (s.extract 1 s.size) || txB (txR (s.extract 1 s.size))) || numB (txR (txR (s.extract 1 s.size)))) || numB (numR (txR (txR (s.extract 1 s.size))))) = true := hB
       rw [decOK_eq, show decide (bAt s 0 = 0) = false from ht, cond_false, hB]
       simp only [Bool.not_true, Bool.and_false, Bool.false_and]
       done)
    | (clear c1 c2 c3 c4 c5 c6 c7 c8 c9 d1 d2 d3 d4 d5 d6 d7 e1 e2 e3 e4 e5 e6 hz hx; rw [ht]; refine dec_put ?_ ht; rw [decOK_eq]; simp_all; done)
    | trace_state
theorem tomb_test (s : ByteArray) (hp : 0 < s.size) : sEq (s.extract 0 (Int.toNat 1)) ⟨#[0]⟩ = decide (bAt s (Int.toNat 0) = 0) := by
  show decide (s.extract 0 1 = ⟨#[0]⟩) = decide (bAt s 0 = 0)
  have hx : (s.extract 0 1).data.toList = [s[0]'hp] := by
    have : (s.extract 0 1).data.toList = s.data.toList.take 1 := by simp
    rw [this, cons_get s hp]
    rfl
  rw [bAt_get s 0 hp]
  refine decide_eq_decide.2 ⟨fun h => ?_, fun h => ba_ext ?_⟩
  · rw [h] at hx
    have : (0 : UInt8) = s[0]'hp := by simpa using hx
    rw [← this]; rfl
  · rw [hx]
    have : s[0]'hp = 0 := UInt8.toNat_inj.1 (by simpa using h)
    rw [this]
theorem sz_pos {s : ByteArray} (h0 : sEq s ⟨#[]⟩ = false) : 0 < s.size := by
  rcases Nat.eq_zero_or_pos s.size with h | h
  · exact absurd (ba_ext (b := ⟨#[]⟩) (show s.data.toList = [] from List.length_eq_zero_iff.1 (by rw [Array.length_toList]; exact h))) (of_decide_eq_false h0)
  · exact h
theorem dec_at (key s : ByteArray) (hz : s.size ≤ 120) : PureAt Try.prog 14 [.str key, .str s] (decR key s) := by
  by_cases hk : key.size = 16
  · have hk := decide_eq_true hk
    cases h0 : sEq s ⟨#[]⟩ with
    | true => exact decnil_at key s hk h0
    | false =>
      have hp := sz_pos h0
      cases ht : decide (bAt s (Int.toNat 0) = 0) with
      | true => exact dectomb_at key s hk h0 hz hp ht ((tomb_test s hp).trans ht)
      | false => exact decput_at key s hk h0 hz hp ht ((tomb_test s hp).trans ht)
  · exact decno_at key s (decide_eq_false fun e => hk (by have e : (key.size : Int) = 16 := e; omega))
theorem refdec_at (key s : ByteArray) (hz : s.size ≤ 120) : PureAt Try.prog 15 [.str key, .str s] (decR key s) := by
  by_cases hk : key.size = 16
  · have hk := decide_eq_true hk
    cases h0 : sEq s ⟨#[]⟩ with
    | true => exact refdecnil_at key s hk h0
    | false =>
      have hp := sz_pos h0
      cases ht : decide (bAt s (Int.toNat 0) = 0) with
      | true => exact refdectomb_at key s hk h0 hz hp ht ((tomb_test s hp).trans ht)
      | false => exact refdecput_at key s hk h0 hz hp ht ((tomb_test s hp).trans ht)
  · exact refdecno_at key s (decide_eq_false fun e => hk (by have e : (key.size : Int) = 16 := e; omega))
end Go.Proofs.Ytpdckafighfadaa
