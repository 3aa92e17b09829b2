/-
  HoldsOne returns true at every value, number and text. Conditions: a number that is none below nought, a text that fits a machine.
-/
import Derived.Test.YtjjebdfjmbnhpaaHoldsF
namespace Go.Proofs.Ytjjebdfjmbnhpaa
open Go.Sym
set_option maxRecDepth 100000
set_option maxHeartbeats 400000

section
variable (kk kv v : ByteArray) (cr mo ve n : Int)
def oneH : List (Nat × EObj) := [(0, .cells [.str kk, .str kv, .int .u64 cr, .int .u64 mo, .int .u64 ve] 25 false)]
def oneC1 (w : Int) : CD := ⟨82, [(1, .int .u64 n), (2, .str v), (3, .ptr 0 0), (7, .int .i64 w)], [], oneH kk kv cr mo ve, 1⟩
def oneC2 (w : Int) : CD := ⟨82, [(1, .int .u64 n), (2, .str v), (3, .ptr 0 0), (8, .int .i64 w)], [], oneH kk kv cr mo ve, 1⟩
def oneC3 : CD := ⟨82, [(1, .int .u64 n), (2, .str v), (3, .ptr 0 0)], [], oneH kk kv cr mo ve, 1⟩
theorem one_loop1 (hn : 0 ≤ n) (N : Nat) : LpD.ok Try.prog N 0 (bodyOf Try.prog 4) ⟨6, [(0, 0)], oneC1 kk kv v cr mo ve n 0, .leaf (.exit 0) (oneC3 kk kv v cr mo ve n)⟩ := by
  refine LpD.ok_one (b := bodyAt Try.prog 4 6) rfl (loop_W tabLaw_ok (fuel := 3) (d := 5) (X := { w : Nat // w ≤ 3 }) (fun x => oneC1 kk kv v cr mo ve n (x.1 : Int)) (fun x => 3 - x.1)
    (fun _ => .leaf (.exit 0) (oneC3 kk kv v cr mo ve n)) (fun _ => noLpW) (fun _ => noLp) (fun _ => noLp_ad) (fun _ => noLp_ok _) ?_ ⟨0, by omega⟩)
  intro x
  cases x with | mk w hw =>
  repeat' (conv => whnf
           first
            | (with_reducible exact True.intro)
            | (with_reducible rfl)
            | (with_reducible exact castL_self _ _)
            | ((with_reducible refine V.same_t ?_); exact rfl)
            | (with_reducible refine iteB_n ?_)
            | ((with_reducible refine andB_i ?_ ?_); · (first | (with_reducible assumption) | (with_reducible exact decide_eq_true rfl) | (with_reducible exact sEq_self _)))
            | ((with_reducible refine iteB_t ?_ ?_); · (first | (with_reducible assumption) | (with_reducible exact decide_eq_true rfl) | (with_reducible exact sEq_self _)))
            | ((with_reducible refine iteB_f ?_ ?_); · (first | (with_reducible assumption) | (with_reducible exact decide_eq_true rfl) | (with_reducible exact sEq_self _)))
            | (refine ⟨⟨w + 1, ?_⟩, ?_, rfl, ?_⟩)
            | (with_reducible refine andB_i ?_ ?_)
            | (with_reducible refine iteB_s (fun hB => ?_) (fun hB => ?_))
            | (with_reducible refine CD.wk_as ?_)
            | (with_reducible refine And.intro ?_ ?_))
  all_goals (conv => whnf)
  all_goals (try dsimp only at *)
  all_goals (try simp only [Bool.not_eq_true', decide_eq_true_eq, decide_eq_false_iff_not, Bool.not_eq_false', Int.ofNat_eq_natCast, Int.toNat_natCast, Nat.le_eq, Bool.and_eq_true, Bool.or_eq_true, Nat.succ_eq_add_one, castL_self, cond_true, cond_false] at *)
  all_goals (try simp (disch := omega) only [wrap_i64, wrap_i32, wrap_u64, wrap_u32, wrap_u16, wrap_u8] at *)
  all_goals (try omega)
  · exact (oneOk_iff _ _ _ _ _).2 ⟨rfl, .inl ⟨by omega, by omega, rfl⟩⟩
  · exact (oneOk_iff _ _ _ _ _).2 ⟨rfl, .inl ⟨by omega, by omega, rfl⟩⟩
  · exact (noneOk_iff _ _ _ _ _).2 (.inr ⟨rfl, rfl, hn, rfl⟩)
theorem one_loop2 (N : Nat) : LpD.ok Try.prog N 0 (bodyOf Try.prog 4) ⟨11, [(0, 0)], oneC2 kk kv v cr mo ve n 0, .leaf (.exit 2) (oneC3 kk kv v cr mo ve n)⟩ := by
  refine LpD.ok_one (b := bodyAt Try.prog 4 11) rfl (loop_W tabLaw_ok (fuel := 3) (d := 5) (X := { w : Nat // w ≤ 4 }) (fun x => oneC2 kk kv v cr mo ve n (x.1 : Int)) (fun x => 4 - x.1)
    (fun _ => .leaf (.exit 2) (oneC3 kk kv v cr mo ve n)) (fun _ => noLpW) (fun _ => noLp) (fun _ => noLp_ad) (fun _ => noLp_ok _) ?_ ⟨0, by omega⟩)
  intro x
  cases x with | mk w hw =>
  repeat' (conv => whnf
           first
            | (with_reducible exact True.intro)
            | (with_reducible rfl)
            | (with_reducible exact castL_self _ _)
            | ((with_reducible refine V.same_t ?_); exact rfl)
            | (with_reducible refine iteB_n ?_)
            | ((with_reducible refine andB_i ?_ ?_); · (first | (with_reducible assumption) | (with_reducible exact decide_eq_true rfl) | (with_reducible exact sEq_self _)))
            | ((with_reducible refine iteB_t ?_ ?_); · (first | (with_reducible assumption) | (with_reducible exact decide_eq_true rfl) | (with_reducible exact sEq_self _)))
            | ((with_reducible refine iteB_f ?_ ?_); · (first | (with_reducible assumption) | (with_reducible exact decide_eq_true rfl) | (with_reducible exact sEq_self _)))
            | (refine ⟨⟨w + 1, ?_⟩, ?_, rfl, ?_⟩)
            | (with_reducible refine andB_i ?_ ?_)
            | (with_reducible refine iteB_s (fun hB => ?_) (fun hB => ?_))
            | (with_reducible refine CD.wk_as ?_)
            | (with_reducible refine And.intro ?_ ?_))
  all_goals (conv => whnf)
  all_goals (try dsimp only at *)
  all_goals (try simp only [Bool.not_eq_true', decide_eq_true_eq, decide_eq_false_iff_not, Bool.not_eq_false', Int.ofNat_eq_natCast, Int.toNat_natCast, Nat.le_eq, Bool.and_eq_true, Bool.or_eq_true, Nat.succ_eq_add_one, castL_self, cond_true, cond_false] at *)
  all_goals (try simp (disch := omega) only [wrap_i64, wrap_i32, wrap_u64, wrap_u32, wrap_u16, wrap_u8] at *)
  all_goals (try omega)
  all_goals exact (noneOk_iff _ _ _ _ _).2 (.inl rfl)
end
theorem ext_le (v : ByteArray) (k : Nat) : (v.extract 0 (min (Int.ofNat v.size) (k : Int)).toNat).size ≤ k := by
  rw [ByteArray.size_extract]
  simp only [Int.ofNat_eq_natCast]
  omega
theorem val_eq (kk kv v : ByteArray) (cr mo ve : Int) (hv : v.size ≤ 32) : (holdsB (aK, 3, 0, 0, v) (kk, kv, cr, mo, ve) true == sEq v kv) = true := by
  rw [holdsB_eq]
  simp only [may_val 0 v (by decide) (by decide) hv, if_true, Bool.true_and, cmpHow_eq, sEq]
  rw [beq_iff_eq]
  exact decide_eq_decide.2 ⟨fun h => h.symm, fun h => h.symm⟩
theorem check_two (n : Int) (v : ByteArray) (hv : v.size ≤ 32) : checkI ([(aK, 2, 3, n, ⟨#[]⟩), (aK, 3, 2, 0, v)] : List CmpR) = 0 := by
  show (if 4 < 2 then (3 : Int) else if (mayB (aK, 2, 3, n, ⟨#[]⟩) && (mayB (aK, 3, 2, 0, v) && true)) = true then 0 else 11) = 0
  rw [may_num 2 3 n (by decide) (by decide) (by decide) (by decide), may_val 2 v (by decide) (by decide) hv]
  rfl
theorem holdsOne_at (kk kv v : ByteArray) (cr mo ve n : Int) (hn : 0 ≤ n) (hv : v.size ≤ 9223372036854775807) (hk : kv.size ≤ 9223372036854775807) : PureAt Try.prog 4 [.agg [.str kk, .str kv, .int .u64 cr, .int .u64 mo, .int .u64 ve], .int .u64 n, .str v] (.bool true) := by
  refine pure_of_loops tabLaw_ok (fuel := 3) (d := 6) [⟨6, [(0, 0)], oneC1 kk (kv.extract 0 (min (Int.ofNat kv.size) 40).toNat) (v.extract 0 (min (Int.ofNat v.size) 32).toNat) cr mo ve n 0, .leaf (.exit 0) (oneC3 kk (kv.extract 0 (min (Int.ofNat kv.size) 40).toNat) (v.extract 0 (min (Int.ofNat v.size) 32).toNat) cr mo ve n)⟩,
    ⟨11, [(0, 0)], oneC2 kk (kv.extract 0 (min (Int.ofNat kv.size) 40).toNat) (v.extract 0 (min (Int.ofNat v.size) 32).toNat) cr mo ve n 0, .leaf (.exit 2) (oneC3 kk (kv.extract 0 (min (Int.ofNat kv.size) 40).toNat) (v.extract 0 (min (Int.ofNat v.size) 32).toNat) cr mo ve n)⟩] ?_ ?_
  · intro N l hl
    rcases List.mem_cons.1 hl with rfl | hl
    · exact one_loop1 _ _ _ _ _ _ _ hn N
    · rw [List.mem_singleton.1 hl]
      exact one_loop2 _ _ _ _ _ _ _ N
  · have hs := ext_le v 32
    have hh := val_eq kk (kv.extract 0 (min (Int.ofNat kv.size) 40).toNat) (v.extract 0 (min (Int.ofNat v.size) 32).toNat) cr mo ve hs
    have hc := check_two n (v.extract 0 (min (Int.ofNat v.size) 32).toNat) hs
    repeat' (conv => whnf
             first
              | (with_reducible exact True.intro)
              | (with_reducible rfl)
              | (with_reducible exact castL_self _ _)
              | ((with_reducible refine V.same_t ?_); exact rfl)
              | (with_reducible refine iteB_n ?_)
              | ((with_reducible refine andB_i ?_ ?_); · (first | (with_reducible assumption) | (with_reducible exact decide_eq_true rfl) | (with_reducible exact sEq_self _)))
              | ((with_reducible refine iteB_t ?_ ?_); · (first | (with_reducible assumption) | (with_reducible exact decide_eq_true rfl) | (with_reducible exact sEq_self _)))
              | ((with_reducible refine iteB_f ?_ ?_); · (first | (with_reducible assumption) | (with_reducible exact decide_eq_true rfl) | (with_reducible exact sEq_self _)))
              | (with_reducible refine andB_i ?_ ?_)
              | (with_reducible refine iteB_s (fun hB => ?_) (fun hB => ?_))
              | (with_reducible refine CD.wk_as ?_)
              | (with_reducible refine And.intro ?_ ?_))
    all_goals (conv => whnf)
    · exact decide_eq_true (by dsimp only; simp only [Int.ofNat_eq_natCast]; omega)
    · exact decide_eq_true (by dsimp only; simp only [Int.ofNat_eq_natCast]; omega)
    · exact decide_eq_true (by dsimp only; simp only [Int.ofNat_eq_natCast]; omega)
    · exact decide_eq_true (by dsimp only; simp only [Int.ofNat_eq_natCast]; omega)
    · exact (oneOk_iff _ _ _ _ _).2 ⟨rfl, .inr ⟨rfl, rfl, hs, rfl⟩⟩
    · refine congrArg V.bool ?_
      exact decide_eq_true hc
    · rw [cond_true, hh] at hB
      cases hB
end Go.Proofs.Ytjjebdfjmbnhpaa
