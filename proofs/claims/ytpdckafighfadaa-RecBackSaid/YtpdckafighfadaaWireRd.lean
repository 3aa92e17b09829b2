/-
  What is read of bytes, as contracts of the reader's methods: the program's. No condition but that texts are of a machine's size.
-/
import Derived.Test.YtpdckafighfadaaWireSym
import Derived.Test.YtpdckafighfadaaRecLaw
namespace Go.Proofs.Ytpdckafighfadaa
open Go.Sym
set_option linter.unusedVariables false
set_option maxRecDepth 100000
set_option maxHeartbeats 4000000

/-- what is read, whether it is not well, what is left -/
noncomputable def numV : ByteArray → Int := hide fun s => (((Wire.numP s.data.toList).1 : Nat) : Int)
noncomputable def numB : ByteArray → Bool := hide fun s => (Wire.numP s.data.toList).2.1
noncomputable def numR : ByteArray → ByteArray := hide fun s => ⟨(Wire.numP s.data.toList).2.2.toArray⟩
theorem numV_eq (s : ByteArray) : numV s = (((Wire.numP s.data.toList).1 : Nat) : Int) := by rw [numV, hide_eq]
theorem numB_eq (s : ByteArray) : numB s = (Wire.numP s.data.toList).2.1 := by rw [numB, hide_eq]
theorem numR_eq (s : ByteArray) : numR s = ⟨(Wire.numP s.data.toList).2.2.toArray⟩ := by rw [numR, hide_eq]
theorem num_is {s : ByteArray} {n : Nat} {b : Bool} {r : ByteArray} (h : Wire.numP s.data.toList = (n, b, r.data.toList)) : numV s = n ∧ numB s = b ∧ numR s = r := by
  rw [numV_eq, numB_eq, numR_eq, h]
  exact ⟨rfl, rfl, rfl⟩
theorem num_bad {s : ByteArray} (h : Wire.numP s.data.toList = (0, true, [])) : numV s = 0 ∧ numB s = true ∧ numR s = ⟨#[]⟩ := num_is (r := ⟨#[]⟩) h
/-- digits read so far -/
def numS (s : ByteArray) : Nat → Int
  | 0 => 0
  | k + 1 => stV (numS s k) (bAt s k)
theorem val_U (l : List UInt8) : Wire.val l = valU l := Wire.snocRec (P := fun l => Wire.val l = valU l) rfl (fun l b ih => by rw [Wire.val_snoc, valU_snoc, ih]) l
theorem numS_sp (s : ByteArray) : ∀ k, numS s k = spS s 0 k
  | 0 => rfl
  | k + 1 => by rw [numS, spS, numS_sp s k, Nat.zero_add]
theorem numS_eq (s : ByteArray) (k : Nat) (h : k ≤ 8) (h2 : k ≤ s.size) : numS s k = ((Wire.val (s.data.toList.take k) : Nat) : Int) := by
  rw [numS_sp, spS_eq s 0 k h (by rw [Array.length_toList, Nat.zero_add]; exact h2), List.drop_zero, val_U]
theorem bAt_get (s : ByteArray) (i : Nat) (h : i < s.size) : bAt s i = (((s[i]'h).toNat : Nat) : Int) := by
  unfold bAt
  rw [List.getD_eq_getElem?_getD, List.getElem?_eq_getElem (by rw [Array.length_toList]; exact h)]
  rfl
theorem bAt_lt (s : ByteArray) (i : Nat) (h : i < s.size) : 0 ≤ bAt s i ∧ bAt s i < 256 := by
  rw [bAt_get s i h]
  have := UInt8.toNat_lt (s[i]'h)
  omega
/-- the first byte, and what stands behind it -/
theorem rd_cons (s : ByteArray) (h : 0 < s.size) : s.data.toList = (s[0]'h) :: (s.extract 1 s.size).data.toList := cons_get s h
theorem rd_nil (s : ByteArray) (h : s.size = 0) : numV s = 0 ∧ numB s = true ∧ numR s = ⟨#[]⟩ := by
  refine num_bad ?_
  have h4 : s.data.toList = [] := List.length_eq_zero_iff.1 (by rw [Array.length_toList]; exact h)
  rw [h4]; rfl
theorem rd_small (s : ByteArray) (h : 0 < s.size) (hc : bAt s 0 < 248) : numV s = bAt s 0 ∧ numB s = false ∧ numR s = s.extract 1 s.size := by
  rw [bAt_get s 0 h] at hc ⊢
  refine num_is ?_
  rw [rd_cons s h]
  exact Wire.numP_small _ _ (by omega)
theorem rd_short (s : ByteArray) (k : Nat) (h : 0 < s.size) (hc : bAt s 0 = 247 + k) (hk0 : 0 < k) (hk : (s.extract 1 s.size).size < k) : numV s = 0 ∧ numB s = true ∧ numR s = ⟨#[]⟩ := by
  rw [bAt_get s 0 h] at hc
  refine num_bad ?_
  rw [rd_cons s h]
  exact Wire.numP_short _ _ (by omega) (by rw [Array.length_toList]; have : (s.extract 1 s.size).data.size = (s.extract 1 s.size).size := rfl; omega)
theorem rd_zero (s : ByteArray) (k : Nat) (h : 0 < s.size) (hc : bAt s 0 = 247 + k) (hk0 : 0 < k) (hp : 0 < (s.extract 1 s.size).size) (h0 : bAt (s.extract 1 s.size) 0 = 0) : numV s = 0 ∧ numB s = true ∧ numR s = ⟨#[]⟩ := by
  rw [bAt_get s 0 h] at hc
  rw [bAt_get _ 0 hp] at h0
  refine num_bad ?_
  rw [rd_cons s h]
  refine Wire.numP_zero _ _ (by omega) ?_
  rw [head_get _ hp]
  exact congrArg some (UInt8.toNat_inj.1 (by simpa using h0))
theorem rd_low (s : ByteArray) (k : Nat) (h : 0 < s.size) (hc : bAt s 0 = 247 + k) (hk0 : 0 < k) (hk : k ≤ (s.extract 1 s.size).size) (hv : numS (s.extract 1 s.size) k < 248) : numV s = 0 ∧ numB s = true ∧ numR s = ⟨#[]⟩ := by
  have hb := bAt_lt s 0 h
  rw [numS_eq _ _ (by omega) hk] at hv
  rw [bAt_get s 0 h] at hc
  have e : (s[0]'h).toNat - 247 = k := by omega
  refine num_bad ?_
  rw [rd_cons s h]
  exact Wire.numP_low _ _ (by omega) (by rw [Array.length_toList, e]; exact Nat.not_lt.2 hk) (by rw [e]; omega)
theorem rd_good (s : ByteArray) (k : Nat) (h : 0 < s.size) (hc : bAt s 0 = 247 + k) (hk0 : 0 < k) (hk : k ≤ (s.extract 1 s.size).size) (h0 : bAt (s.extract 1 s.size) 0 ≠ 0) (hv : 248 ≤ numS (s.extract 1 s.size) k) :
    numV s = numS (s.extract 1 s.size) k ∧ numB s = false ∧ numR s = (s.extract 1 s.size).extract k (s.extract 1 s.size).size := by
  have hb := bAt_lt s 0 h
  rw [numS_eq _ _ (by omega) hk] at hv ⊢
  rw [bAt_get s 0 h] at hc
  rw [bAt_get _ 0 (by omega)] at h0
  have e : (s[0]'h).toNat - 247 = k := by omega
  refine num_is ?_
  have hg := Wire.numP_good (s[0]'h) (s.extract 1 s.size).data.toList (by omega) (by rw [Array.length_toList, e]; exact Nat.not_lt.2 hk) (by rw [head_get _ (by omega)]; intro hh; apply h0; rw [Option.some.inj hh]; rfl) (by rw [e]; omega)
  rw [rd_cons s h, hg, e, extract_drop, extract_drop, extract_drop]
theorem num_nil (s : ByteArray) (bad : Bool) (h0 : sEq s ⟨#[]⟩ = true) : MethAt Try.prog 29 [.str s, .bool bad] [] (.int .u64 (numV s)) [.str (numR s), .bool (bad || numB s)] := by
  obtain ⟨e1, e2, e3⟩ := rd_nil s (by have : s = ⟨#[]⟩ := of_decide_eq_true h0
                                      rw [this]; rfl)
  refine meth_of_W0 (tab := noTab) noTab_ok (fuel := 3) (d := 4) fun t ish => ?_
  repeat' (conv => whnf
           first
            | (with_reducible exact True.intro)
            | (with_reducible rfl)
            | (with_reducible exact castL_self _ _)
            | ((with_reducible refine V.same_t ?_); exact rfl)
            | (with_reducible refine iteB_n ?_)
            | ((with_reducible refine andB_i ?_ ?_); · (first | (with_reducible assumption) | (with_reducible exact decide_eq_true rfl) | (with_reducible exact sEq_self _) | ((with_reducible refine eqOK_i ?_); kernel_rfl)))
            | ((with_reducible refine iteB_t ?_ ?_); · (first | (with_reducible assumption) | (with_reducible exact decide_eq_true rfl) | (with_reducible exact sEq_self _) | ((with_reducible refine eqOK_i ?_); kernel_rfl)))
            | ((with_reducible refine iteB_f ?_ ?_); · (first | (with_reducible assumption) | (with_reducible exact decide_eq_true rfl) | (with_reducible exact sEq_self _) | ((with_reducible refine eqOK_i ?_); kernel_rfl)))
            | (with_reducible refine andB_i ?_ ?_)
            | (with_reducible refine iteB_s (fun hB => ?_) (fun hB => ?_))
            | (with_reducible refine CD.wk_as ?_)
            | (with_reducible refine And.intro ?_ ?_))
  all_goals (conv => whnf)
  · rw [e1]
  · rw [e2, e3, Bool.or_true]
theorem num_one (s : ByteArray) (bad : Bool) (hs : 0 < s.size) (h0 : sEq s ⟨#[]⟩ = false) (h1 : decide (bAt s (Int.toNat 0) < 248) = true) : MethAt Try.prog 29 [.str s, .bool bad] [] (.int .u64 (numV s)) [.str (numR s), .bool (bad || numB s)] := by
  have h2 : bAt s 0 < 248 := of_decide_eq_true h1
  obtain ⟨e1, e2, e3⟩ := rd_small s hs h2
  have hb := bAt_lt s 0 hs
  refine meth_of_W0 (tab := noTab) noTab_ok (fuel := 3) (d := 4) fun t ish => ?_
  repeat' (conv => whnf
           first
            | (with_reducible exact True.intro)
            | (with_reducible rfl)
            | (with_reducible exact castL_self _ _)
            | ((with_reducible refine V.same_t ?_); exact rfl)
            | (with_reducible refine iteB_n ?_)
            | ((with_reducible refine andB_i ?_ ?_); · (first | (with_reducible assumption) | (with_reducible exact decide_eq_true rfl) | (with_reducible exact sEq_self _) | ((with_reducible refine eqOK_i ?_); kernel_rfl)))
            | ((with_reducible refine iteB_t ?_ ?_); · (first | (with_reducible assumption) | (with_reducible exact decide_eq_true rfl) | (with_reducible exact sEq_self _) | ((with_reducible refine eqOK_i ?_); kernel_rfl)))
            | ((with_reducible refine iteB_f ?_ ?_); · (first | (with_reducible assumption) | (with_reducible exact decide_eq_true rfl) | (with_reducible exact sEq_self _) | ((with_reducible refine eqOK_i ?_); kernel_rfl)))
            | (with_reducible refine andB_i ?_ ?_)
            | (with_reducible refine iteB_s (fun hB => ?_) (fun hB => ?_))
            | (with_reducible refine CD.wk_as ?_)
            | (with_reducible refine And.intro ?_ ?_))
  all_goals (conv => whnf)
  · exact decide_eq_true hs
  · exact decide_eq_true hs
  · exact decide_eq_true (Nat.le_refl _)
  · rw [e1]
    exact congrArg (V.int .u64) (wrap_u64 (n := bAt s 0) hb.1 (by omega))
  · rw [e2, e3, Bool.or_false]
    rfl
theorem num_long (s : ByteArray) (bad : Bool) (k : Nat) (hs : s.size ≤ 9223372036854775807) (hp : 0 < s.size) (h0 : sEq s ⟨#[]⟩ = false) (h1 : decide (bAt s (Int.toNat 0) < 248) = false) (hk0 : 0 < k) (hk8 : k ≤ 8) (hc : bAt s 0 = 247 + k)
    (hle : k ≤ (s.extract 1 s.size).size) (h2 : decide (Int.ofNat (s.extract (Int.toNat 1) s.size).size < IntKind.i64.wrap (IntKind.i64.wrap (bAt s (Int.toNat 0)) - 247)) = false) (h3 : (bif false then true else decide (bAt (s.extract (Int.toNat 1) s.size) (Int.toNat 0) = 0)) = false) : MethAt Try.prog 29 [.str s, .bool bad] [] (.int .u64 (numV s)) [.str (numR s), .bool (bad || numB s)] := by
  have hK : IntKind.i64.wrap (IntKind.i64.wrap (bAt s (Int.toNat 0)) - 247) = Int.ofNat k := by
    rw [show bAt s (Int.toNat 0) = 247 + k from hc, wrap_i64 (n := 247 + (k : Int)) (by omega) (by omega), wrap_i64 (by omega) (by omega)]
    show _ = (k : Int)
    omega
  have hz : bAt (s.extract 1 s.size) 0 ≠ 0 := of_decide_eq_false h3
  refine meth_of_loop noTab_ok (fuel := 3) (d := 4) 14 (X := { i : Nat // i ≤ k })
    (fun t ish x => ⟨73, [(1, .ptr 1 0), (2, .int .u64 (numS (s.extract 1 s.size) x.1)), (3, .fn 41 [] [.ptr 1 0]), (5, .str (s.extract 1 s.size)), (6, .int .i64 (Int.ofNat k)), (50, .int .i64 (Int.ofNat k)), (51, .int .i64 (Int.ofNat x.1))], [], [(0, .cells [.str s, .bool bad] t ish), (1, .cells [.ptr 0 0] 52 false)], 2⟩) (fun x => k - x.1)
    (fun t ish _ => .leaf (.exit 0) ⟨73, [(1, .ptr 1 0), (2, .int .u64 (numS (s.extract 1 s.size) k)), (3, .fn 41 [] [.ptr 1 0]), (5, .str (s.extract 1 s.size)), (6, .int .i64 (Int.ofNat k))], [], [(0, .cells [.str s, .bool bad] t ish), (1, .cells [.ptr 0 0] 52 false)], 2⟩) ⟨0, Nat.zero_le _⟩ [(1, 1)] rfl ?_ ?_
  · rintro t ish ⟨i, hi⟩
    cases ish
    repeat' (conv => whnf
             first
              | (with_reducible exact True.intro)
              | (with_reducible rfl)
              | (with_reducible exact castL_self _ _)
              | ((with_reducible refine V.same_t ?_); exact rfl)
              | (with_reducible refine iteB_n ?_)
              | ((with_reducible refine andB_i ?_ ?_); · (first | (with_reducible assumption) | (with_reducible exact decide_eq_true rfl) | (with_reducible exact sEq_self _) | ((with_reducible refine eqOK_i ?_); kernel_rfl)))
              | ((with_reducible refine iteB_t ?_ ?_); · (first | (with_reducible assumption) | (with_reducible exact decide_eq_true rfl) | (with_reducible exact sEq_self _) | ((with_reducible refine eqOK_i ?_); kernel_rfl)))
              | ((with_reducible refine iteB_f ?_ ?_); · (first | (with_reducible assumption) | (with_reducible exact decide_eq_true rfl) | (with_reducible exact sEq_self _) | ((with_reducible refine eqOK_i ?_); kernel_rfl)))
              | (refine ⟨⟨i + 1, ?_⟩, ?_, rfl, ?_⟩)
              | (with_reducible refine CD.wk_ask ?_)
              | (with_reducible refine andB_i ?_ ?_)
              | (with_reducible refine iteB_s (fun hB => ?_) (fun hB => ?_))
              | (with_reducible refine CD.wk_as ?_)
              | (with_reducible refine And.intro ?_ ?_))
    all_goals (conv => whnf)
    all_goals first
      | (have hB : (i : Int) < (k : Int) := of_decide_eq_true hB
         exact decide_eq_true (show i < _ by omega))
      | (have hB : (i : Int) < (k : Int) := of_decide_eq_true hB
         show i + 1 ≤ k
         omega)
      | (have hB : (i : Int) < (k : Int) := of_decide_eq_true hB
         show k - (i + 1) + 1 ≤ k - i
         omega)
      | rfl
      | (show IntKind.i64.wrap ((i : Int) + 1) = ((i + 1 : Nat) : Int)
         rw [wrap_i64 (by omega) (by omega)]
         omega)
      | (have hB : ¬ (i : Int) < (k : Int) := of_decide_eq_false hB
         have hik : i = k := by omega
         subst hik
         rfl)
      | trace_state
  · intro t ish
    have c1 : decide (Int.toNat 0 < s.size) = true := decide_eq_true hp
    have c2 : decide (Int.toNat 1 ≤ s.size) = true := decide_eq_true hp
    have c3 : decide (s.size ≤ s.size) = true := decide_eq_true (Nat.le_refl _)
    have c4 : decide (Int.toNat 0 < (s.extract (Int.toNat 1) s.size).size) = true := decide_eq_true (show 0 < (s.extract 1 s.size).size by omega)
    have c5 : decide ((Int.ofNat k).toNat ≤ (s.extract 1 s.size).size) = true := decide_eq_true hle
    have c6 : decide ((s.extract 1 s.size).size ≤ (s.extract 1 s.size).size) = true := decide_eq_true (Nat.le_refl _)
    cases h4 : decide (numS (s.extract 1 s.size) k < 248) with
    | true =>
      obtain ⟨e1, e2, e3⟩ := rd_low s k hp hc hk0 hle (of_decide_eq_true h4)
      rw [e1, e2, e3, Bool.or_true]
      cases ish
      repeat' (conv => whnf
               first
                | (with_reducible exact True.intro)
                | (with_reducible rfl)
                | (with_reducible exact castL_self _ _)
                | ((with_reducible refine V.same_t ?_); exact rfl)
                | (with_reducible refine iteB_n ?_)
                | ((with_reducible refine andB_i ?_ ?_); · (first | (with_reducible assumption) | (with_reducible exact decide_eq_true rfl) | (with_reducible exact sEq_self _) | ((with_reducible refine eqOK_i ?_); kernel_rfl)))
                | ((with_reducible refine iteB_t ?_ ?_); · (first | (with_reducible assumption) | (with_reducible exact decide_eq_true rfl) | (with_reducible exact sEq_self _) | ((with_reducible refine eqOK_i ?_); kernel_rfl)))
                | ((with_reducible refine iteB_f ?_ ?_); · (first | (with_reducible assumption) | (with_reducible exact decide_eq_true rfl) | (with_reducible exact sEq_self _) | ((with_reducible refine eqOK_i ?_); kernel_rfl)))
                | (with_reducible refine andB_i ?_ ?_)
                | (with_reducible refine iteB_s (fun hB => ?_) (fun hB => ?_))
                | (with_reducible refine CD.wk_as ?_)
                | (with_reducible refine And.intro ?_ ?_))
      all_goals (conv => whnf)
      all_goals first
        | (with_reducible exact hK)
        | rfl
        | trace_state
    | false =>
      obtain ⟨e1, e2, e3⟩ := rd_good s k hp hc hk0 hle hz (by have := of_decide_eq_false h4; omega)
      rw [e1, e2, e3, Bool.or_false]
      cases ish
      repeat' (conv => whnf
               first
                | (with_reducible exact True.intro)
                | (with_reducible rfl)
                | (with_reducible exact castL_self _ _)
                | ((with_reducible refine V.same_t ?_); exact rfl)
                | (with_reducible refine iteB_n ?_)
                | ((with_reducible refine andB_i ?_ ?_); · (first | (with_reducible assumption) | (with_reducible exact decide_eq_true rfl) | (with_reducible exact sEq_self _) | ((with_reducible refine eqOK_i ?_); kernel_rfl)))
                | ((with_reducible refine iteB_t ?_ ?_); · (first | (with_reducible assumption) | (with_reducible exact decide_eq_true rfl) | (with_reducible exact sEq_self _) | ((with_reducible refine eqOK_i ?_); kernel_rfl)))
                | ((with_reducible refine iteB_f ?_ ?_); · (first | (with_reducible assumption) | (with_reducible exact decide_eq_true rfl) | (with_reducible exact sEq_self _) | ((with_reducible refine eqOK_i ?_); kernel_rfl)))
                | (with_reducible refine andB_i ?_ ?_)
                | (with_reducible refine iteB_s (fun hB => ?_) (fun hB => ?_))
                | (with_reducible refine CD.wk_as ?_)
                | (with_reducible refine And.intro ?_ ?_))
      all_goals (conv => whnf)
      all_goals first
        | (with_reducible exact hK)
        | rfl
        | trace_state
theorem num_bad_at (s : ByteArray) (bad : Bool) (hp : 0 < s.size) (h0 : sEq s ⟨#[]⟩ = false) (h1 : decide (bAt s (Int.toNat 0) < 248) = false)
    (he : numV s = 0 ∧ numB s = true ∧ numR s = ⟨#[]⟩) (hl : decide (Int.ofNat (s.extract (Int.toNat 1) s.size).size < IntKind.i64.wrap (IntKind.i64.wrap (bAt s (Int.toNat 0)) - 247)) = true ∨ 
      decide (Int.ofNat (s.extract (Int.toNat 1) s.size).size < IntKind.i64.wrap (IntKind.i64.wrap (bAt s (Int.toNat 0)) - 247)) = false ∧ 0 < (s.extract 1 s.size).size ∧ (bif false then true else decide (bAt (s.extract (Int.toNat 1) s.size) (Int.toNat 0) = 0)) = true) : MethAt Try.prog 29 [.str s, .bool bad] [] (.int .u64 (numV s)) [.str (numR s), .bool (bad || numB s)] := by
  obtain ⟨e1, e2, e3⟩ := he
  have c1 : decide (Int.toNat 0 < s.size) = true := decide_eq_true hp
  have c2 : decide (Int.toNat 1 ≤ s.size) = true := decide_eq_true hp
  have c3 : decide (s.size ≤ s.size) = true := decide_eq_true (Nat.le_refl _)
  rw [e1, e2, e3, Bool.or_true]
  rcases hl with h2 | ⟨h2, hq, h3⟩
  case' inr => have c4 : decide (Int.toNat 0 < (s.extract (Int.toNat 1) s.size).size) = true := decide_eq_true hq
  all_goals refine meth_of_W0 (tab := noTab) noTab_ok (fuel := 3) (d := 4) fun t ish => ?_
  repeat' (conv => whnf
           first
            | (with_reducible exact True.intro)
            | (with_reducible rfl)
            | (with_reducible exact castL_self _ _)
            | ((with_reducible refine V.same_t ?_); exact rfl)
            | (with_reducible refine iteB_n ?_)
            | ((with_reducible refine andB_i ?_ ?_); · (first | (with_reducible assumption) | (with_reducible exact decide_eq_true rfl) | (with_reducible exact sEq_self _) | ((with_reducible refine eqOK_i ?_); kernel_rfl)))
            | ((with_reducible refine iteB_t ?_ ?_); · (first | (with_reducible assumption) | (with_reducible exact decide_eq_true rfl) | (with_reducible exact sEq_self _) | ((with_reducible refine eqOK_i ?_); kernel_rfl)))
            | ((with_reducible refine iteB_f ?_ ?_); · (first | (with_reducible assumption) | (with_reducible exact decide_eq_true rfl) | (with_reducible exact sEq_self _) | ((with_reducible refine eqOK_i ?_); kernel_rfl)))
            | (with_reducible refine andB_i ?_ ?_)
            | (with_reducible refine iteB_s (fun hB => ?_) (fun hB => ?_))
            | (with_reducible refine CD.wk_as ?_)
            | (with_reducible refine And.intro ?_ ?_))
  all_goals (conv => whnf)
  all_goals first
    | rfl
    | trace_state
theorem num_at (s : ByteArray) (bad : Bool) (hs : s.size ≤ 9223372036854775807) : MethAt Try.prog 29 [.str s, .bool bad] [] (.int .u64 (numV s)) [.str (numR s), .bool (bad || numB s)] := by
  cases h0 : sEq s ⟨#[]⟩ with
  | true => exact num_nil s bad h0
  | false =>
    have hp : 0 < s.size := by
      rcases Nat.eq_zero_or_pos s.size with h | h
      · exact absurd (ba_ext (b := ⟨#[]⟩) (show s.data.toList = [] from List.length_eq_zero_iff.1 (by rw [Array.length_toList]; exact h))) (of_decide_eq_false h0)
      · exact h
    have hb := bAt_lt s 0 hp
    cases h1 : decide (bAt s (Int.toNat 0) < 248) with
    | true => exact num_one s bad hp h0 h1
    | false =>
      have h1' : ¬ bAt s 0 < 248 := of_decide_eq_false h1
      obtain ⟨k, hk⟩ : ∃ k : Nat, bAt s 0 = 247 + k := ⟨(bAt s 0 - 247).toNat, by omega⟩
      have hK : IntKind.i64.wrap (IntKind.i64.wrap (bAt s (Int.toNat 0)) - 247) = Int.ofNat k := by
        rw [show bAt s (Int.toNat 0) = 247 + k from hk, wrap_i64 (n := 247 + (k : Int)) (by omega) (by omega), wrap_i64 (by omega) (by omega)]
        show _ = (k : Int)
        omega
      cases h2 : decide (Int.ofNat (s.extract (Int.toNat 1) s.size).size < IntKind.i64.wrap (IntKind.i64.wrap (bAt s (Int.toNat 0)) - 247)) with
      | true =>
        have h2' : ((s.extract 1 s.size).size : Int) < (k : Int) := by rw [hK] at h2; exact of_decide_eq_true h2
        exact num_bad_at s bad hp h0 h1 (rd_short s k hp hk (by omega) (by omega)) (.inl h2)
      | false =>
        have h2' : ¬ ((s.extract 1 s.size).size : Int) < (k : Int) := by rw [hK] at h2; exact of_decide_eq_false h2
        cases h3 : (bif false then true else decide (bAt (s.extract (Int.toNat 1) s.size) (Int.toNat 0) = 0)) with
        | true => exact num_bad_at s bad hp h0 h1 (rd_zero s k hp hk (by omega) (by omega) (of_decide_eq_true h3)) (.inr ⟨h2, by omega, h3⟩)
        | false => exact num_long s bad k hs hp h0 h1 (by omega) (by omega) hk (by omega) h2 h3
end Go.Proofs.Ytpdckafighfadaa
