/-
  A record's bytes: the program's and the document's functions. Conditions: 64 bits, texts that are not too long.
-/
import Derived.Test.YtpdckafighfadaaWireSym
namespace Go.Proofs.Ytpdckafighfadaa
open Go.Sym
set_option linter.unusedVariables false
set_option maxRecDepth 100000
set_option maxHeartbeats 4000000

def mayR (m n : Int) (k v : ByteArray) (c d w : Int) (t : Bool) : Bool :=
  decide (1 ≤ m) && decide (m ≤ 1099511627776) && decide (n < 65536) && decide (1 ≤ k.size) && decide (k.size ≤ 16) &&
    (bif t then decide (v.size = 0) && decide (c = 0) && decide (d = 0) && decide (w = 0)
     else decide (v.size ≤ 32) && decide (d = m) && decide (1 ≤ c) && decide (c ≤ d) && decide (1 ≤ w) && decide (w ≤ 1099511627776))
noncomputable def recT : Int → Int → ByteArray → ByteArray → Int → Int → Int → Bool → ByteArray := hide fun m n k v c d w t =>
  bif mayR m n k v c d w t then (bif t then ⟨#[0]⟩ ++ txtT k else ⟨#[1]⟩ ++ txtT k ++ txtT v ++ numT c ++ numT w) else ⟨#[]⟩
noncomputable def recE : Int → Int → ByteArray → ByteArray → Int → Int → Int → Bool → Int := hide fun m n k v c d w t => bif mayR m n k v c d w t then 0 else 2
theorem recT_eq (m n : Int) (k v : ByteArray) (c d w : Int) (t : Bool) : recT m n k v c d w t = bif mayR m n k v c d w t then (bif t then ⟨#[0]⟩ ++ txtT k else ⟨#[1]⟩ ++ txtT k ++ txtT v ++ numT c ++ numT w) else ⟨#[]⟩ := by rw [recT, hide_eq]
theorem recE_eq (m n : Int) (k v : ByteArray) (c d w : Int) (t : Bool) : recE m n k v c d w t = bif mayR m n k v c d w t then 0 else 2 := by rw [recE, hide_eq]
theorem rec_no {m n : Int} {k v : ByteArray} {c d w : Int} {t : Bool} (h : mayR m n k v c d w t = false) : V.tup [.str ⟨#[]⟩, .int .i64 2] = V.tup [.str (recT m n k v c d w t), .int .i64 (recE m n k v c d w t)] := by
  rw [recT_eq, recE_eq, h]; rfl
theorem rec_tomb {m n : Int} {k v : ByteArray} {c d w : Int} (h : mayR m n k v c d w true = true) : V.tup [.str (⟨#[0]⟩ ++ txtT k), .int .i64 0] = V.tup [.str (recT m n k v c d w true), .int .i64 (recE m n k v c d w true)] := by
  rw [recT_eq, recE_eq, h]; rfl
theorem rec_put {m n : Int} {k v : ByteArray} {c d w : Int} (h : mayR m n k v c d w false = true) : V.tup [.str (⟨#[1]⟩ ++ txtT k ++ txtT v ++ numT c ++ numT w), .int .i64 0] = V.tup [.str (recT m n k v c d w false), .int .i64 (recE m n k v c d w false)] := by
  rw [recT_eq, recE_eq, h]; rfl
theorem sEq0 (v : ByteArray) : sEq v ⟨#[]⟩ = decide (v.size = 0) := by
  show decide (v = ⟨#[]⟩) = _
  refine decide_eq_decide.2 ⟨fun h => by rw [h]; rfl, fun h => ?_⟩
  refine ba_ext ?_
  show v.data.toList = []
  exact List.length_eq_zero_iff.1 (by rw [Array.length_toList]; exact h)
theorem szle {a b : ByteArray} {x y : Nat} (h : a.size ≤ x) (h' : b.size ≤ y) : (a ++ b).size ≤ x + y := by rw [ByteArray.size_append]; omega
theorem size1 (b : UInt8) : ByteArray.size ⟨#[b]⟩ = 1 := rfl
theorem refenc_at (m n : Int) (k v : ByteArray) (c d w : Int) (t : Bool) (h1 : decide (0 ≤ m) = true) (h2 : decide (m < 18446744073709551616) = true) (h3 : decide (0 ≤ n) = true) (h4 : decide (n < 18446744073709551616) = true)
    (h5 : decide (0 ≤ c) = true) (h6 : decide (c < 18446744073709551616) = true) (h7 : decide (0 ≤ d) = true) (h8 : decide (d < 18446744073709551616) = true) (h9 : decide (0 ≤ w) = true) (h10 : decide (w < 18446744073709551616) = true)
    (hk : decide (k.size ≤ 1000) = true) (hv : decide (v.size ≤ 1000) = true) :
    PureAt Try.prog 10 [.agg [.int .u64 m, .int .u64 n, .str k, .str v, .int .u64 c, .int .u64 d, .int .u64 w, .bool t]] (.tup [.str (recT m n k v c d w t), .int .i64 (recE m n k v c d w t)]) := by
  have hk' : decide (k.size ≤ 100000) = true := decide_eq_true (Nat.le_trans (of_decide_eq_true hk) (by decide))
  have hv' : decide (v.size ≤ 100000) = true := decide_eq_true (Nat.le_trans (of_decide_eq_true hv) (by decide))
  have zk := txtT_size k (by have := of_decide_eq_true hk; omega)
  have zv := txtT_size v (by have := of_decide_eq_true hv; omega)
  have zc := numT_size c (of_decide_eq_true h6)
  have zw := numT_size w (of_decide_eq_true h10)
  cases t
  all_goals refine pure_of_W0 (tab := tabPut) (fuel := 3) (d := 6) tabPut_ok ?_
  · repeat' (conv => whnf
             first
              | (with_reducible exact True.intro)
              | (with_reducible rfl)
              | (with_reducible exact castL_self _ _)
              | ((with_reducible refine V.same_t ?_); exact rfl)
              | (with_reducible refine iteB_n ?_)
              | ((with_reducible refine andB_i ?_ ?_); · (first | (with_reducible assumption) | (with_reducible exact decide_eq_true rfl) | (with_reducible exact sEq_self _) | ((with_reducible refine eqOK_i ?_); kernel_rfl)))
              | ((with_reducible refine iteB_t ?_ ?_); · (first | (with_reducible assumption) | (with_reducible exact decide_eq_true rfl) | (with_reducible exact sEq_self _) | ((with_reducible refine eqOK_i ?_); kernel_rfl)))
              | ((with_reducible refine iteB_f ?_ ?_); · (first | (with_reducible assumption) | (with_reducible exact decide_eq_true rfl) | (with_reducible exact sEq_self _) | ((with_reducible refine eqOK_i ?_); kernel_rfl)))
              | (with_reducible refine andB_i ?_ ?_)
              | (with_reducible refine iteB_s (fun hB => ?_) (fun hB => ?_))
              | (with_reducible refine CD.wk_as ?_)
              | (with_reducible refine And.intro ?_ ?_))
    all_goals (conv => whnf)
    all_goals first
      | (refine rec_no ?_; rw [← Bool.not_eq_true]; intro hm; simp only [mayR, sEq_self, sEq0, cond_true, cond_false, Bool.true_and, Bool.and_true, Bool.and_eq_false_iff, Bool.and_eq_true, decide_eq_true_eq, decide_eq_false_iff_not, Int.ofNat_eq_natCast] at *; omega)
      | (refine rec_put ?_; simp only [mayR, sEq_self, sEq0, cond_true, cond_false, Bool.true_and, Bool.and_true, Bool.and_eq_false_iff, Bool.and_eq_true, decide_eq_true_eq, decide_eq_false_iff_not, Int.ofNat_eq_natCast] at *; omega)
      | (refine rec_tomb ?_; simp only [mayR, sEq_self, sEq0, cond_true, cond_false, Bool.true_and, Bool.and_true, Bool.and_eq_false_iff, Bool.and_eq_true, decide_eq_true_eq, decide_eq_false_iff_not, Int.ofNat_eq_natCast] at *; omega)
      | (have hk := of_decide_eq_true hk; have hv := of_decide_eq_true hv; refine decide_eq_true (Nat.le_trans (szle (x := 1) (Nat.le_refl 1) zk) ?_); omega)
      | (have hk := of_decide_eq_true hk; have hv := of_decide_eq_true hv; refine decide_eq_true (Nat.le_trans (szle (szle (x := 1) (Nat.le_refl 1) zk) zv) ?_); omega)
      | (have hk := of_decide_eq_true hk; have hv := of_decide_eq_true hv; refine decide_eq_true (Nat.le_trans (szle (szle (szle (x := 1) (Nat.le_refl 1) zk) zv) zc) ?_); omega)
      | trace_state
  · repeat' (conv => whnf
             first
              | (with_reducible exact True.intro)
              | (with_reducible rfl)
              | (with_reducible exact castL_self _ _)
              | ((with_reducible refine V.same_t ?_); exact rfl)
              | (with_reducible refine iteB_n ?_)
              | ((with_reducible refine andB_i ?_ ?_); · (first | (with_reducible assumption) | (with_reducible exact decide_eq_true rfl) | (with_reducible exact sEq_self _) | ((with_reducible refine eqOK_i ?_); kernel_rfl)))
              | ((with_reducible refine iteB_t ?_ ?_); · (first | (with_reducible assumption) | (with_reducible exact decide_eq_true rfl) | (with_reducible exact sEq_self _) | ((with_reducible refine eqOK_i ?_); kernel_rfl)))
              | ((with_reducible refine iteB_f ?_ ?_); · (first | (with_reducible assumption) | (with_reducible exact decide_eq_true rfl) | (with_reducible exact sEq_self _) | ((with_reducible refine eqOK_i ?_); kernel_rfl)))
              | (with_reducible refine andB_i ?_ ?_)
              | (with_reducible refine iteB_s (fun hB => ?_) (fun hB => ?_))
              | (with_reducible refine CD.wk_as ?_)
              | (with_reducible refine And.intro ?_ ?_))
    all_goals (conv => whnf)
    all_goals first
      | (refine rec_no ?_; rw [← Bool.not_eq_true]; intro hm; simp only [mayR, sEq_self, sEq0, cond_true, cond_false, Bool.true_and, Bool.and_true, Bool.and_eq_false_iff, Bool.and_eq_true, decide_eq_true_eq, decide_eq_false_iff_not, Int.ofNat_eq_natCast] at *; omega)
      | (refine rec_put ?_; simp only [mayR, sEq_self, sEq0, cond_true, cond_false, Bool.true_and, Bool.and_true, Bool.and_eq_false_iff, Bool.and_eq_true, decide_eq_true_eq, decide_eq_false_iff_not, Int.ofNat_eq_natCast] at *; omega)
      | (refine rec_tomb ?_; simp only [mayR, sEq_self, sEq0, cond_true, cond_false, Bool.true_and, Bool.and_true, Bool.and_eq_false_iff, Bool.and_eq_true, decide_eq_true_eq, decide_eq_false_iff_not, Int.ofNat_eq_natCast] at *; omega)
      | (have hk := of_decide_eq_true hk; have hv := of_decide_eq_true hv; refine decide_eq_true (Nat.le_trans (szle (x := 1) (Nat.le_refl 1) zk) ?_); omega)
      | (have hk := of_decide_eq_true hk; have hv := of_decide_eq_true hv; refine decide_eq_true (Nat.le_trans (szle (szle (x := 1) (Nat.le_refl 1) zk) zv) ?_); omega)
      | (have hk := of_decide_eq_true hk; have hv := of_decide_eq_true hv; refine decide_eq_true (Nat.le_trans (szle (szle (szle (x := 1) (Nat.le_refl 1) zk) zv) zc) ?_); omega)
      | trace_state
theorem enc_at (m n : Int) (k v : ByteArray) (c d w : Int) (t : Bool) (h1 : decide (0 ≤ m) = true) (h2 : decide (m < 18446744073709551616) = true) (h3 : decide (0 ≤ n) = true) (h4 : decide (n < 18446744073709551616) = true)
    (h5 : decide (0 ≤ c) = true) (h6 : decide (c < 18446744073709551616) = true) (h7 : decide (0 ≤ d) = true) (h8 : decide (d < 18446744073709551616) = true) (h9 : decide (0 ≤ w) = true) (h10 : decide (w < 18446744073709551616) = true)
    (hk : decide (k.size ≤ 1000) = true) (hv : decide (v.size ≤ 1000) = true) :
    PureAt Try.prog 9 [.agg [.int .u64 m, .int .u64 n, .str k, .str v, .int .u64 c, .int .u64 d, .int .u64 w, .bool t]] (.tup [.str (recT m n k v c d w t), .int .i64 (recE m n k v c d w t)]) := by
  have hk' : decide (k.size ≤ 100000) = true := decide_eq_true (Nat.le_trans (of_decide_eq_true hk) (by decide))
  have hv' : decide (v.size ≤ 100000) = true := decide_eq_true (Nat.le_trans (of_decide_eq_true hv) (by decide))
  have zk := txtT_size k (by have := of_decide_eq_true hk; omega)
  have zv := txtT_size v (by have := of_decide_eq_true hv; omega)
  have zc := numT_size c (of_decide_eq_true h6)
  have zw := numT_size w (of_decide_eq_true h10)
  cases t
  all_goals refine pure_of_W0 (tab := tabPut) (fuel := 6) (d := 14) tabPut_ok ?_
  · repeat' (conv => whnf
             first
              | (with_reducible exact True.intro)
              | (with_reducible rfl)
              | (with_reducible exact castL_self _ _)
              | ((with_reducible refine V.same_t ?_); exact rfl)
              | (with_reducible refine iteB_n ?_)
              | ((with_reducible refine andB_i ?_ ?_); · (first | (with_reducible assumption) | (with_reducible exact decide_eq_true rfl) | (with_reducible exact sEq_self _) | ((with_reducible refine eqOK_i ?_); kernel_rfl)))
              | ((with_reducible refine iteB_t ?_ ?_); · (first | (with_reducible assumption) | (with_reducible exact decide_eq_true rfl) | (with_reducible exact sEq_self _) | ((with_reducible refine eqOK_i ?_); kernel_rfl)))
              | ((with_reducible refine iteB_f ?_ ?_); · (first | (with_reducible assumption) | (with_reducible exact decide_eq_true rfl) | (with_reducible exact sEq_self _) | ((with_reducible refine eqOK_i ?_); kernel_rfl)))
              | (with_reducible refine andB_i ?_ ?_)
              | (with_reducible refine iteB_s (fun hB => ?_) (fun hB => ?_))
              | (with_reducible refine CD.wk_as ?_)
              | (with_reducible refine And.intro ?_ ?_))
    all_goals (conv => whnf)
    all_goals first
      | (refine rec_no ?_; rw [← Bool.not_eq_true]; intro hm; simp only [mayR, sEq_self, sEq0, cond_true, cond_false, Bool.true_and, Bool.and_true, Bool.and_eq_false_iff, Bool.and_eq_true, decide_eq_true_eq, decide_eq_false_iff_not, Int.ofNat_eq_natCast] at *; omega)
      | (refine rec_put ?_; simp only [mayR, sEq_self, sEq0, cond_true, cond_false, Bool.true_and, Bool.and_true, Bool.and_eq_false_iff, Bool.and_eq_true, decide_eq_true_eq, decide_eq_false_iff_not, Int.ofNat_eq_natCast] at *; omega)
      | (refine rec_tomb ?_; simp only [mayR, sEq_self, sEq0, cond_true, cond_false, Bool.true_and, Bool.and_true, Bool.and_eq_false_iff, Bool.and_eq_true, decide_eq_true_eq, decide_eq_false_iff_not, Int.ofNat_eq_natCast] at *; omega)
      | (have hk := of_decide_eq_true hk; have hv := of_decide_eq_true hv; refine decide_eq_true (Nat.le_trans (szle (x := 1) (Nat.le_refl 1) zk) ?_); omega)
      | (have hk := of_decide_eq_true hk; have hv := of_decide_eq_true hv; refine decide_eq_true (Nat.le_trans (szle (szle (x := 1) (Nat.le_refl 1) zk) zv) ?_); omega)
      | (have hk := of_decide_eq_true hk; have hv := of_decide_eq_true hv; refine decide_eq_true (Nat.le_trans (szle (szle (szle (x := 1) (Nat.le_refl 1) zk) zv) zc) ?_); omega)
      | trace_state
  · repeat' (conv => whnf
             first
              | (with_reducible exact True.intro)
              | (with_reducible rfl)
              | (with_reducible exact castL_self _ _)
              | ((with_reducible refine V.same_t ?_); exact rfl)
              | (with_reducible refine iteB_n ?_)
              | ((with_reducible refine andB_i ?_ ?_); · (first | (with_reducible assumption) | (with_reducible exact decide_eq_true rfl) | (with_reducible exact sEq_self _) | ((with_reducible refine eqOK_i ?_); kernel_rfl)))
              | ((with_reducible refine iteB_t ?_ ?_); · (first | (with_reducible assumption) | (with_reducible exact decide_eq_true rfl) | (with_reducible exact sEq_self _) | ((with_reducible refine eqOK_i ?_); kernel_rfl)))
              | ((with_reducible refine iteB_f ?_ ?_); · (first | (with_reducible assumption) | (with_reducible exact decide_eq_true rfl) | (with_reducible exact sEq_self _) | ((with_reducible refine eqOK_i ?_); kernel_rfl)))
              | (with_reducible refine andB_i ?_ ?_)
              | (with_reducible refine iteB_s (fun hB => ?_) (fun hB => ?_))
              | (with_reducible refine CD.wk_as ?_)
              | (with_reducible refine And.intro ?_ ?_))
    all_goals (conv => whnf)
    all_goals first
      | (refine rec_no ?_; rw [← Bool.not_eq_true]; intro hm; simp only [mayR, sEq_self, sEq0, cond_true, cond_false, Bool.true_and, Bool.and_true, Bool.and_eq_false_iff, Bool.and_eq_true, decide_eq_true_eq, decide_eq_false_iff_not, Int.ofNat_eq_natCast] at *; omega)
      | (refine rec_put ?_; simp only [mayR, sEq_self, sEq0, cond_true, cond_false, Bool.true_and, Bool.and_true, Bool.and_eq_false_iff, Bool.and_eq_true, decide_eq_true_eq, decide_eq_false_iff_not, Int.ofNat_eq_natCast] at *; omega)
      | (refine rec_tomb ?_; simp only [mayR, sEq_self, sEq0, cond_true, cond_false, Bool.true_and, Bool.and_true, Bool.and_eq_false_iff, Bool.and_eq_true, decide_eq_true_eq, decide_eq_false_iff_not, Int.ofNat_eq_natCast] at *; omega)
      | (have hk := of_decide_eq_true hk; have hv := of_decide_eq_true hv; refine decide_eq_true (Nat.le_trans (szle (x := 1) (Nat.le_refl 1) zk) ?_); omega)
      | (have hk := of_decide_eq_true hk; have hv := of_decide_eq_true hv; refine decide_eq_true (Nat.le_trans (szle (szle (x := 1) (Nat.le_refl 1) zk) zv) ?_); omega)
      | (have hk := of_decide_eq_true hk; have hv := of_decide_eq_true hv; refine decide_eq_true (Nat.le_trans (szle (szle (szle (x := 1) (Nat.le_refl 1) zk) zv) zc) ?_); omega)
      | trace_state
end Go.Proofs.Ytpdckafighfadaa
