/-
  What is read of bytes, as contracts of the reader's methods: the document's. No condition but that texts are not longer than some hundred thousand bytes.
-/
import Derived.Test.YtpdckafighfadaaWireTx
namespace Go.Proofs.Ytpdckafighfadaa
open Go.Sym
set_option linter.unusedVariables false
set_option maxRecDepth 100000
set_option maxHeartbeats 4000000

/-- one behind the other, not to be unfolded -/
noncomputable def catB : ByteArray → ByteArray → ByteArray := hide fun a b => a ++ b
theorem catB_eq (a b : ByteArray) : catB a b = a ++ b := by rw [catB, hide_eq]
/-- 64 bits, not to be unfolded -/
noncomputable def u64H : Int → Bool := hide fun n => decide (0 ≤ n ∧ n < 18446744073709551616)
theorem u64H_eq (n : Int) : u64H n = decide (0 ≤ n ∧ n < 18446744073709551616) := by rw [u64H, hide_eq]
noncomputable def putCatF (args : List V) : Option (List Bool × V) := match args with
  | [.str s, .int .u64 n] => some ([u64H n, decide (s.size ≤ 100000)], .str (catB s (numT n)))
  | _ => none
theorem putCatF_ok (args : List V) (c : List Bool) (v : V) (h : putCatF args = some (c, v)) (hc : allB c) : PureAt Try.prog 25 args v := by
  unfold putCatF at h
  split at h
  · cases h; have h1 := hc.1; rw [u64H_eq] at h1; have h1 := of_decide_eq_true h1; rw [catB_eq]; exact refPutNum_at _ _ h1.1 h1.2 (of_decide_eq_true hc.2.1)
  · cases h
noncomputable def tabCat : Tab := oneTab 25 putCatF noTab
theorem tabCat_ok : TabOK Try.prog tabCat := oneTab_ok putCatF_ok noTab_ok
theorem refnum_nil (s : ByteArray) (bad : Bool) (h0 : sEq s ⟨#[]⟩ = true) : MethAt Try.prog 32 [.str s, .bool bad] [] (.int .u64 (numV s)) [.str (numR s), .bool (bad || numB s)] := by
  obtain ⟨e1, e2, e3⟩ := rd_nil s (by have : s = ⟨#[]⟩ := of_decide_eq_true h0
                                      rw [this]; rfl)
  rw [e1, e2, e3, Bool.or_true]
  refine meth_of_W0 (tab := tabCat) tabCat_ok (fuel := 3) (d := 4) fun t ish => ?_
  repeat' (conv => whnf
           first
            | (with_reducible exact True.intro)
            | (with_reducible rfl)
            | (with_reducible exact castL_self _ _)
            | ((with_reducible refine V.same_t ?_); exact rfl)
            | (with_reducible refine iteB_n ?_)
            | ((with_reducible refine andB_i ?_ ?_); · (first | (with_reducible assumption) | (with_reducible exact decide_eq_true rfl) | (with_reducible exact sEq_self _) | ((with_reducible refine eqOK_i ?_); kernel_rfl)))
            | ((with_reducible refine iteB_t ?_ ?_); · (first | (with_reducible assumption) | (with_reducible exact decide_eq_true rfl) | (with_reducible exact sEq_self _) | ((with_reducible refine eqOK_i ?_); kernel_rfl)))
            | ((with_reducible refine iteB_f ?_ ?_); · (first | (with_reducible assumption) | (with_reducible exact decide_eq_true rfl) | (with_reducible exact sEq_self _) | ((with_reducible refine eqOK_i ?_); kernel_rfl)))
            | (with_reducible refine andB_i ?_ ?_)
            | (with_reducible refine iteB_s (fun hB => ?_) (fun hB => ?_))
            | (with_reducible refine CD.wk_as ?_)
            | (with_reducible refine And.intro ?_ ?_))
  all_goals (conv => whnf)
/-- digits read so far, as the document does it -/
def refS (s : ByteArray) : Nat → Int
  | 0 => 0
  | k + 1 => IntKind.u64.wrap (IntKind.u64.wrap (256 * refS s k) + IntKind.u64.wrap (bAt s (k + 1)))
theorem refnum_one (s : ByteArray) (bad : Bool) (hs : 0 < s.size) (h0 : sEq s ⟨#[]⟩ = false)
    (hK : maxI (IntKind.i64.wrap (IntKind.i64.wrap (bAt s (Int.toNat 0)) - 247)) 0 = 0) 
    (h2 : decide (Int.ofNat s.size < IntKind.i64.wrap (1 + maxI (IntKind.i64.wrap (IntKind.i64.wrap (bAt s (Int.toNat 0)) - 247)) 0)) = false)
    (h3 : decide (0 < maxI (IntKind.i64.wrap (IntKind.i64.wrap (bAt s (Int.toNat 0)) - 247)) 0) = false)
    (hu : u64H (IntKind.u64.wrap (bAt s (Int.toNat 0))) = true)
    (h4 : sEq (catB ⟨#[]⟩ (numT (IntKind.u64.wrap (bAt s (Int.toNat 0))))) (s.extract 0 (Int.toNat (IntKind.i64.wrap (1 + 0)))) = true) : MethAt Try.prog 32 [.str s, .bool bad] [] (.int .u64 (IntKind.u64.wrap (bAt s (Int.toNat 0)))) [.str (s.extract 1 s.size), .bool bad] := by
  have c1 : decide (Int.toNat 0 < s.size) = true := decide_eq_true hs
  have c2 : decide ((IntKind.i64.wrap (1 + 0)).toNat ≤ s.size) = true := decide_eq_true (show 1 ≤ s.size from hs)
  have c3 : decide (s.size ≤ s.size) = true := decide_eq_true (Nat.le_refl _)
  refine meth_of_loop tabCat_ok (fuel := 3) (d := 4) 12 (X := Unit)
    (fun t ish x => ⟨77, [(0, .ptr 0 0), (3, .int .i64 0), (4, .int .u64 (IntKind.u64.wrap (bAt s (Int.toNat 0)))), (5, .int .i64 1)], [], [(0, .cells [.str s, .bool bad] t ish)], 1⟩) (fun x => 0)
    (fun t ish _ => .leaf (.exit 0) ⟨77, [(0, .ptr 0 0), (3, .int .i64 0), (4, .int .u64 (IntKind.u64.wrap (bAt s (Int.toNat 0)))), (5, .int .i64 1)], [], [(0, .cells [.str s, .bool bad] t ish)], 1⟩) () [] rfl ?_ ?_
  · rintro t ish ⟨⟩
    cases ish
    repeat' (conv => whnf
             first
              | (with_reducible exact True.intro)
              | (with_reducible rfl)
              | (with_reducible exact castL_self _ _)
              | ((with_reducible refine V.same_t ?_); exact rfl)
              | (with_reducible refine iteB_n ?_)
              | ((with_reducible refine andB_i ?_ ?_); · (first | (with_reducible assumption) | (with_reducible exact decide_eq_true rfl) | (with_reducible exact sEq_self _) | ((with_reducible refine eqOK_i ?_); kernel_rfl)))
              | ((with_reducible refine iteB_t ?_ ?_); · (first | (with_reducible assumption) | (with_reducible exact decide_eq_true rfl) | (with_reducible exact sEq_self _) | ((with_reducible refine eqOK_i ?_); kernel_rfl)))
              | ((with_reducible refine iteB_f ?_ ?_); · (first | (with_reducible assumption) | (with_reducible exact decide_eq_true rfl) | (with_reducible exact sEq_self _) | ((with_reducible refine eqOK_i ?_); kernel_rfl)))
              | (refine ⟨(), ?_, rfl, ?_⟩)
              | (with_reducible refine CD.wk_ask ?_)
              | (with_reducible refine andB_i ?_ ?_)
              | (with_reducible refine iteB_s (fun hB => ?_) (fun hB => ?_))
              | (with_reducible refine CD.wk_as ?_)
              | (with_reducible refine And.intro ?_ ?_))
    all_goals (conv => whnf)
  · intro t ish
    cases ish
    repeat' (conv => whnf
             first
              | (with_reducible exact True.intro)
              | (with_reducible rfl)
              | (with_reducible exact castL_self _ _)
              | ((with_reducible refine V.same_t ?_); exact rfl)
              | (with_reducible refine iteB_n ?_)
              | ((with_reducible refine andB_i ?_ ?_); · (first | (with_reducible assumption) | (with_reducible exact decide_eq_true rfl) | (with_reducible exact sEq_self _) | ((with_reducible refine eqOK_i ?_); kernel_rfl)))
              | ((with_reducible refine iteB_t ?_ ?_); · (first | (with_reducible assumption) | (with_reducible exact decide_eq_true rfl) | (with_reducible exact sEq_self _) | ((with_reducible refine eqOK_i ?_); kernel_rfl)))
              | ((with_reducible refine iteB_f ?_ ?_); · (first | (with_reducible assumption) | (with_reducible exact decide_eq_true rfl) | (with_reducible exact sEq_self _) | ((with_reducible refine eqOK_i ?_); kernel_rfl)))
              | (with_reducible refine andB_i ?_ ?_)
              | (with_reducible refine iteB_s (fun hB => ?_) (fun hB => ?_))
              | (with_reducible refine CD.wk_as ?_)
              | (with_reducible refine And.intro ?_ ?_))
    all_goals (conv => whnf)
    all_goals first
      | (with_reducible exact hK)
      | rfl
      | trace_state
theorem refnum_short (s : ByteArray) (bad : Bool) (hs : 0 < s.size) (h0 : sEq s ⟨#[]⟩ = false)
    (h2 : decide (Int.ofNat s.size < IntKind.i64.wrap (1 + maxI (IntKind.i64.wrap (IntKind.i64.wrap (bAt s (Int.toNat 0)) - 247)) 0)) = true) : MethAt Try.prog 32 [.str s, .bool bad] [] (.int .u64 0) [.str ⟨#[]⟩, .bool true] := by
  have c1 : decide (Int.toNat 0 < s.size) = true := decide_eq_true hs
  refine meth_of_W0 tabCat_ok (fuel := 3) (d := 4) fun t ish => ?_
  repeat' (conv => whnf
           first
            | (with_reducible exact True.intro)
            | (with_reducible rfl)
            | (with_reducible exact castL_self _ _)
            | ((with_reducible refine V.same_t ?_); exact rfl)
            | (with_reducible refine iteB_n ?_)
            | ((with_reducible refine andB_i ?_ ?_); · (first | (with_reducible assumption) | (with_reducible exact decide_eq_true rfl) | (with_reducible exact sEq_self _) | ((with_reducible refine eqOK_i ?_); kernel_rfl)))
            | ((with_reducible refine iteB_t ?_ ?_); · (first | (with_reducible assumption) | (with_reducible exact decide_eq_true rfl) | (with_reducible exact sEq_self _) | ((with_reducible refine eqOK_i ?_); kernel_rfl)))
            | ((with_reducible refine iteB_f ?_ ?_); · (first | (with_reducible assumption) | (with_reducible exact decide_eq_true rfl) | (with_reducible exact sEq_self _) | ((with_reducible refine eqOK_i ?_); kernel_rfl)))
            | (with_reducible refine andB_i ?_ ?_)
            | (with_reducible refine iteB_s (fun hB => ?_) (fun hB => ?_))
            | (with_reducible refine CD.wk_as ?_)
            | (with_reducible refine And.intro ?_ ?_))
  all_goals (conv => whnf)
theorem refnum_long (s : ByteArray) (bad : Bool) (k : Nat) (e : Bool) (hs : 0 < s.size) (h0 : sEq s ⟨#[]⟩ = false) (hks : k < s.size) (hk8 : k ≤ 8)
    (hK : maxI (IntKind.i64.wrap (IntKind.i64.wrap (bAt s (Int.toNat 0)) - 247)) 0 = Int.ofNat k)
    (h2 : decide (Int.ofNat s.size < IntKind.i64.wrap (1 + maxI (IntKind.i64.wrap (IntKind.i64.wrap (bAt s (Int.toNat 0)) - 247)) 0)) = false)
    (h3 : decide (0 < maxI (IntKind.i64.wrap (IntKind.i64.wrap (bAt s (Int.toNat 0)) - 247)) 0) = true)
    (hu : u64H (refS s k) = true)
    (h4 : sEq (catB ⟨#[]⟩ (numT (refS s k))) (s.extract 0 (Int.toNat (IntKind.i64.wrap (1 + Int.ofNat k)))) = e) : MethAt Try.prog 32 [.str s, .bool bad] [] (bif e then .int .u64 (refS s k) else .int .u64 0) (bif e then [.str (s.extract (k + 1) s.size), .bool bad] else [.str ⟨#[]⟩, .bool true]) := by
  have c1 : decide (Int.toNat 0 < s.size) = true := decide_eq_true hs
  have hw : IntKind.i64.wrap (1 + (k : Int)) = ((k + 1 : Nat) : Int) := by rw [wrap_i64 (by omega) (by omega)]; omega
  have c2 : decide ((IntKind.i64.wrap (1 + Int.ofNat k)).toNat ≤ s.size) = true := decide_eq_true (by show (IntKind.i64.wrap (1 + (k : Int))).toNat ≤ _; rw [hw]; omega)
  have c0 : decide (0 ≤ IntKind.i64.wrap (1 + Int.ofNat k)) = true := decide_eq_true (by show 0 ≤ IntKind.i64.wrap (1 + (k : Int)); rw [hw]; omega)
  have c3 : decide (s.size ≤ s.size) = true := decide_eq_true (Nat.le_refl _)
  have ht : s.extract (IntKind.i64.wrap (1 + Int.ofNat k)).toNat s.size = s.extract (k + 1) s.size := by show s.extract (IntKind.i64.wrap (1 + (k : Int))).toNat s.size = _; rw [hw]; rfl
  refine meth_of_loop tabCat_ok (fuel := 3) (d := 4) 12 (X := { i : Nat // i ≤ k })
    (fun t ish x => ⟨77, [(0, .ptr 0 0), (3, .int .i64 (Int.ofNat k)), (4, .int .u64 (refS s x.1)), (5, .int .i64 (Int.ofNat (x.1 + 1)))], [], [(0, .cells [.str s, .bool bad] t ish)], 1⟩) (fun x => k - x.1)
    (fun t ish _ => .leaf (.exit 0) ⟨77, [(0, .ptr 0 0), (3, .int .i64 (Int.ofNat k)), (4, .int .u64 (refS s k)), (5, .int .i64 (Int.ofNat (k + 1)))], [], [(0, .cells [.str s, .bool bad] t ish)], 1⟩) ⟨0, Nat.zero_le _⟩ [] rfl ?_ ?_
  · rintro t ish ⟨i, hi⟩
    cases ish
    repeat' (conv => whnf
             first
              | (with_reducible exact True.intro)
              | (with_reducible rfl)
              | (with_reducible exact castL_self _ _)
              | ((with_reducible refine V.same_t ?_); exact rfl)
              | (with_reducible refine iteB_n ?_)
              | ((with_reducible refine andB_i ?_ ?_); · (first | (with_reducible assumption) | (with_reducible exact decide_eq_true rfl) | (with_reducible exact sEq_self _) | ((with_reducible refine eqOK_i ?_); kernel_rfl)))
              | ((with_reducible refine iteB_t ?_ ?_); · (first | (with_reducible assumption) | (with_reducible exact decide_eq_true rfl) | (with_reducible exact sEq_self _) | ((with_reducible refine eqOK_i ?_); kernel_rfl)))
              | ((with_reducible refine iteB_f ?_ ?_); · (first | (with_reducible assumption) | (with_reducible exact decide_eq_true rfl) | (with_reducible exact sEq_self _) | ((with_reducible refine eqOK_i ?_); kernel_rfl)))
              | (refine ⟨⟨i + 1, ?_⟩, ?_, rfl, ?_⟩)
              | (with_reducible refine CD.wk_ask ?_)
              | (with_reducible refine andB_i ?_ ?_)
              | (with_reducible refine iteB_s (fun hB => ?_) (fun hB => ?_))
              | (with_reducible refine CD.wk_as ?_)
              | (with_reducible refine And.intro ?_ ?_))
    all_goals (conv => whnf)
    all_goals first
      | (have hB : ((i + 1 : Nat) : Int) ≤ (k : Int) := of_decide_eq_true hB
         exact decide_eq_true (show i + 1 < s.size by omega))
      | (have hB : ((i + 1 : Nat) : Int) ≤ (k : Int) := of_decide_eq_true hB
         show i + 1 ≤ k
         omega)
      | (have hB : ((i + 1 : Nat) : Int) ≤ (k : Int) := of_decide_eq_true hB
         show k - (i + 1) + 1 ≤ k - i
         omega)
      | rfl
      | (show IntKind.i64.wrap (((i + 1 : Nat) : Int) + 1) = ((i + 1 + 1 : Nat) : Int)
         rw [wrap_i64 (by omega) (by omega)]
         omega)
      | (have hB : ¬ ((i + 1 : Nat) : Int) ≤ (k : Int) := of_decide_eq_false hB
         have hik : i = k := by omega
         subst hik
         rfl)
      | trace_state
  · intro t ish
    cases e
    · rw [cond_false, cond_false]
      cases ish
      repeat' (conv => whnf
               first
                | (with_reducible exact True.intro)
                | (with_reducible rfl)
                | (with_reducible exact castL_self _ _)
                | ((with_reducible refine V.same_t ?_); exact rfl)
                | (with_reducible refine iteB_n ?_)
                | ((with_reducible refine andB_i ?_ ?_); · (first | (with_reducible assumption) | (with_reducible exact decide_eq_true rfl) | (with_reducible exact sEq_self _) | ((with_reducible refine eqOK_i ?_); kernel_rfl)))
                | ((with_reducible refine iteB_t ?_ ?_); · (first | (with_reducible assumption) | (with_reducible exact decide_eq_true rfl) | (with_reducible exact sEq_self _) | ((with_reducible refine eqOK_i ?_); kernel_rfl)))
                | ((with_reducible refine iteB_f ?_ ?_); · (first | (with_reducible assumption) | (with_reducible exact decide_eq_true rfl) | (with_reducible exact sEq_self _) | ((with_reducible refine eqOK_i ?_); kernel_rfl)))
                | (with_reducible refine andB_i ?_ ?_)
                | (with_reducible refine iteB_s (fun hB => ?_) (fun hB => ?_))
                | (with_reducible refine CD.wk_as ?_)
                | (with_reducible refine And.intro ?_ ?_))
      all_goals (conv => whnf)
      all_goals first
        | (with_reducible exact hK)
        | rfl
        | trace_state
    · rw [cond_true, cond_true, ← ht]
      cases ish
      repeat' (conv => whnf
               first
                | (with_reducible exact True.intro)
                | (with_reducible rfl)
                | (with_reducible exact castL_self _ _)
                | ((with_reducible refine V.same_t ?_); exact rfl)
                | (with_reducible refine iteB_n ?_)
                | ((with_reducible refine andB_i ?_ ?_); · (first | (with_reducible assumption) | (with_reducible exact decide_eq_true rfl) | (with_reducible exact sEq_self _) | ((with_reducible refine eqOK_i ?_); kernel_rfl)))
                | ((with_reducible refine iteB_t ?_ ?_); · (first | (with_reducible assumption) | (with_reducible exact decide_eq_true rfl) | (with_reducible exact sEq_self _) | ((with_reducible refine eqOK_i ?_); kernel_rfl)))
                | ((with_reducible refine iteB_f ?_ ?_); · (first | (with_reducible assumption) | (with_reducible exact decide_eq_true rfl) | (with_reducible exact sEq_self _) | ((with_reducible refine eqOK_i ?_); kernel_rfl)))
                | (with_reducible refine andB_i ?_ ?_)
                | (with_reducible refine iteB_s (fun hB => ?_) (fun hB => ?_))
                | (with_reducible refine CD.wk_as ?_)
                | (with_reducible refine And.intro ?_ ?_))
      all_goals (conv => whnf)
      all_goals first
        | (with_reducible exact hK)
        | rfl
        | trace_state
theorem bAt_rest (s : ByteArray) (k : Nat) : bAt (s.extract 1 s.size) k = bAt s (k + 1) := by
  unfold bAt
  rw [extract_drop, List.getD_eq_getElem?_getD, List.getD_eq_getElem?_getD, List.getElem?_drop, Nat.add_comm 1 k]
theorem val_lt' (l : List UInt8) : Wire.val l < 256 ^ l.length := by rw [val_U]; exact valU_lt l
theorem refS_eq (s : ByteArray) : ∀ k, k ≤ 8 → k < s.size → refS s k = numS (s.extract 1 s.size) k
  | 0, _, _ => rfl
  | k + 1, h, h2 => by
    have hz : (s.extract 1 s.size).size = s.size - 1 := by rw [ByteArray.size_extract]; omega
    have hv := val_lt' ((s.extract 1 s.size).data.toList.take k)
    have hl : ((s.extract 1 s.size).data.toList.take k).length = k := by rw [List.length_take, Array.length_toList]; show min k (s.extract 1 s.size).size = k; omega
    rw [hl] at hv
    have hp : (256 : Nat) ^ k ≤ 256 ^ 7 := Nat.pow_le_pow_right (by decide) (by omega)
    have hb := bAt_lt s (k + 1) h2
    have e : bAt s (k + 1) = ((bAt s (k + 1)).toNat : Int) := by omega
    rw [refS, numS, refS_eq s k (by omega) (by omega), numS_eq _ k (by omega) (by omega), bAt_rest, e, stV_eq _ _ (by omega) (by omega)]
    rw [wrap_u64 (n := 256 * ((Wire.val ((s.extract 1 s.size).data.toList.take k) : Nat) : Int)) (by omega) (by omega), wrap_u64 (n := (((bAt s (k + 1)).toNat : Nat) : Int)) (by omega) (by omega), wrap_u64 (by omega) (by omega)]
    omega
theorem cat_sEq (v : Nat) (s : ByteArray) (j : Nat) (hj : j ≤ s.size) : sEq (catB ⟨#[]⟩ (numT v)) (s.extract 0 j) = decide (Wire.enc v = s.data.toList.take j) := by
  show decide (catB ⟨#[]⟩ (numT v) = s.extract 0 j) = _
  have hx : (s.extract 0 j).data.toList = s.data.toList.take j := by simp
  refine decide_eq_decide.2 ⟨fun h => ?_, fun h => ?_⟩
  · rw [← hx, ← h, catB_eq, numT_nat, ByteArray.data_append, Array.toList_append]; rfl
  · refine ba_ext ?_
    rw [hx, ← h, catB_eq, numT_nat, ByteArray.data_append, Array.toList_append]; rfl
theorem refnum_at (s : ByteArray) (bad : Bool) (hs : s.size ≤ 9223372036854775807) : MethAt Try.prog 32 [.str s, .bool bad] [] (.int .u64 (numV s)) [.str (numR s), .bool (bad || numB s)] := by
  cases h0 : sEq s ⟨#[]⟩ with
  | true => exact refnum_nil s bad h0
  | false =>
    have hp : 0 < s.size := by
      rcases Nat.eq_zero_or_pos s.size with h | h
      · exact absurd (ba_ext (b := ⟨#[]⟩) (show s.data.toList = [] from List.length_eq_zero_iff.1 (by rw [Array.length_toList]; exact h))) (of_decide_eq_false h0)
      · exact h
    have hb := bAt_lt s 0 hp
    have hz : (s.extract 1 s.size).size = s.size - 1 := by rw [ByteArray.size_extract]; omega
    by_cases h1 : bAt s 0 < 248
    · obtain ⟨e1, e2, e3⟩ := rd_small s hp h1
      have hw : IntKind.u64.wrap (bAt s (Int.toNat 0)) = bAt s 0 := wrap_u64 (n := bAt s 0) hb.1 (by omega)
      have hK : maxI (IntKind.i64.wrap (IntKind.i64.wrap (bAt s (Int.toNat 0)) - 247)) 0 = 0 := by
        rw [show bAt s (Int.toNat 0) = bAt s 0 from rfl, wrap_i64 (n := bAt s 0) (by omega) (by omega), wrap_i64 (by omega) (by omega), maxI_eq]; omega
      have := refnum_one s bad hp h0 hK (by rw [hK]; exact decide_eq_false (by show ¬ ((s.size : Int) < 1); omega)) (by rw [hK]; rfl) (by rw [hw, u64H_eq]; exact decide_eq_true ⟨hb.1, by omega⟩) (by
        rw [hw, bAt_get s 0 hp, show (Int.toNat (IntKind.i64.wrap (1 + 0))) = 1 from rfl, cat_sEq _ _ _ hp]
        refine decide_eq_true ?_
        rw [bAt_get s 0 hp] at h1
        rw [Wire.enc, if_pos (by omega), cons_get s hp]
        simp)
      rw [hw] at this
      rw [e1, e2, e3, Bool.or_false]
      exact this
    · obtain ⟨k, hk⟩ : ∃ k : Nat, bAt s 0 = 247 + k := ⟨(bAt s 0 - 247).toNat, by omega⟩
      have hK : maxI (IntKind.i64.wrap (IntKind.i64.wrap (bAt s (Int.toNat 0)) - 247)) 0 = Int.ofNat k := by
        rw [show bAt s (Int.toNat 0) = 247 + k from hk, wrap_i64 (n := 247 + (k : Int)) (by omega) (by omega), wrap_i64 (by omega) (by omega), maxI_eq]
        show _ = (k : Int)
        omega
      have hw : IntKind.i64.wrap (1 + (k : Int)) = ((k + 1 : Nat) : Int) := by rw [wrap_i64 (by omega) (by omega)]; omega
      by_cases h2 : s.size ≤ k
      · obtain ⟨e1, e2, e3⟩ := rd_short s k hp hk (by omega) (by omega)
        rw [e1, e2, e3, Bool.or_true]
        exact refnum_short s bad hp h0 (by rw [hK]; exact decide_eq_true (by show (s.size : Int) < IntKind.i64.wrap (1 + (k : Int)); rw [hw]; omega))
      · have hS := refS_eq s k (by omega) (by omega)
        rw [numS_eq _ k (by omega) (by omega)] at hS
        have hv := val_lt' ((s.extract 1 s.size).data.toList.take k)
        have hl : ((s.extract 1 s.size).data.toList.take k).length = k := by rw [List.length_take, Array.length_toList]; show min k (s.extract 1 s.size).size = k; omega
        rw [hl] at hv
        have hp8 : (256 : Nat) ^ k ≤ 256 ^ 8 := Nat.pow_le_pow_right (by decide) (by omega)
        have := refnum_long s bad k (decide (Wire.enc (Wire.val ((s.extract 1 s.size).data.toList.take k)) = s.data.toList.take (k + 1))) hp h0 (by omega) (by omega) hK (by rw [hK]; exact decide_eq_false (by show ¬ ((s.size : Int) < IntKind.i64.wrap (1 + (k : Int))); rw [hw]; omega))
          (by rw [hK]; exact decide_eq_true (by show (0 : Int) < (k : Int); omega)) (by rw [hS, u64H_eq]; exact decide_eq_true (by omega)) (by
            rw [hS, show (Int.toNat (IntKind.i64.wrap (1 + Int.ofNat k))) = k + 1 by show (IntKind.i64.wrap (1 + (k : Int))).toNat = _; rw [hw]; rfl, cat_sEq _ _ _ (by omega)])
        have hc : (s[0]'hp).toNat - 247 = k := by rw [bAt_get s 0 hp] at hk; omega
        have hh : ¬ (s[0]'hp).toNat < 248 := by rw [bAt_get s 0 hp] at h1; omega
        have ht : s.data.toList.take (k + 1) = (s[0]'hp) :: (s.extract 1 s.size).data.toList.take k := by
          conv => lhs; rw [cons_get s hp]
          rfl
        by_cases he : Wire.enc (Wire.val ((s.extract 1 s.size).data.toList.take k)) = s.data.toList.take (k + 1)
        · rw [decide_eq_true he, cond_true, cond_true, hS] at this
          have hn := num_is (s := s) (n := Wire.val ((s.extract 1 s.size).data.toList.take k)) (b := false) (r := s.extract (k + 1) s.size) (by
            rw [cons_get s hp, Wire.numP, Wire.readNum, if_neg hh, if_neg (by rw [Array.length_toList, hc]; show ¬ (s.extract 1 s.size).size < k; omega), hc, if_pos (by rw [he, ht])]
            rw [extract_drop, extract_drop, List.drop_drop, Nat.add_comm])
          obtain ⟨e1, e2, e3⟩ := hn
          rw [e1, e2, e3, Bool.or_false]
          exact this
        · rw [decide_eq_false he, cond_false, cond_false] at this
          obtain ⟨e1, e2, e3⟩ := num_bad (s := s) (by
            rw [cons_get s hp, Wire.numP, Wire.readNum, if_neg hh, if_neg (by rw [Array.length_toList, hc]; show ¬ (s.extract 1 s.size).size < k; omega), hc, if_neg (by rw [← ht]; exact he)])
          rw [e1, e2, e3, Bool.or_true]
          exact this
end Go.Proofs.Ytpdckafighfadaa
